/- Recipes: CountOrders: the rule; its walk in the program. Printed by gen_rech.py. -/
import Derived.Test.YtecfkomijaakhaaRecE
namespace Go.Proofs.Ytecfkomijaakhaa
open Go.RowKit Go.Sort

/-- What one look at step k adds, from the set d. -/
def cntIn (L : List Step) (d : Nat) (ways : List Int) : Nat → List Int
  | 0 => ways
  | k + 1 => if (decide (0 < intsAt ways d) && !d.testBit k && readyM (stepAt L k) d) = true then
      (cntIn L d ways k).set (d ||| 2 ^ k) (wrap64 (intsAt (cntIn L d ways k) (d ||| 2 ^ k) + intsAt ways d)) else cntIn L d ways k
def cntOut (L : List Step) : Nat → List Int
  | 0 => (List.replicate (2 ^ L.length) 0).set 0 1
  | d + 1 => cntIn L d (cntOut L d) L.length
theorem cntIn_len (L : List Step) (d : Nat) (ways : List Int) : ∀ k, (cntIn L d ways k).length = ways.length
  | 0 => rfl
  | k + 1 => by rw [cntIn]; split <;> simp [cntIn_len L d ways k]
theorem cntOut_len (L : List Step) : ∀ d, (cntOut L d).length = 2 ^ L.length
  | 0 => by simp [cntOut]
  | d + 1 => by rw [cntOut, cntIn_len, cntOut_len L d]
theorem or_ne {d k : Nat} (h : d.testBit k = false) : d ||| 2 ^ k ≠ d := by
  intro e
  have : (d ||| 2 ^ k).testBit k = true := by rw [Nat.testBit_or, Nat.testBit_two_pow]; simp
  rw [e, h] at this; cases this
theorem cntIn_at (L : List Step) (d : Nat) (ways : List Int) (hd : ∀ k, k < L.length → d ||| 2 ^ k < ways.length) : ∀ k, k ≤ L.length → intsAt (cntIn L d ways k) d = intsAt ways d
  | 0, _ => rfl
  | k + 1, hk => by
    rw [cntIn]
    split
    · rename_i h
      simp only [Bool.and_eq_true, Bool.not_eq_true'] at h
      rw [intsAt_set (by rw [cntIn_len]; exact hd k (by omega)), if_neg (fun e => or_ne h.1.2 e.symm)]
      exact cntIn_at L d ways hd k (by omega)
    · exact cntIn_at L d ways hd k (by omega)
theorem cntIn_no {L : List Step} {d k : Nat} {ways : List Int} (h : (decide (0 < intsAt ways d) && !d.testBit k && readyM (stepAt L k) d) = false) : cntIn L d ways (k + 1) = cntIn L d ways k := by rw [cntIn, h]; rfl
theorem cntIn_yes {L : List Step} {d k : Nat} {ways : List Int} (h : (decide (0 < intsAt ways d) && !d.testBit k && readyM (stepAt L k) d) = true) : cntIn L d ways (k + 1) = (cntIn L d ways k).set (d ||| 2 ^ k) (wrap64 (intsAt (cntIn L d ways k) (d ||| 2 ^ k) + intsAt ways d)) := by rw [cntIn, h]; rfl
def countF (L : List Step) : Int × Int := if isRecipe L = true then (intsAt (cntOut L (2 ^ L.length)) (2 ^ L.length - 1), 0) else (0, 1)
theorem countF_bad {L : List Step} (h : isRecipe L = false) : countF L = (0, 1) := by simp [countF, h]
theorem countF_ok {L : List Step} (h : isRecipe L = true) : countF L = (intsAt (cntOut L (2 ^ L.length)) (2 ^ L.length - 1), 0) := by simp [countF, h]
theorem bar_lt {d k n : Nat} (hd : d < 2 ^ n) (hk : k < n) : d ||| 2 ^ k < 2 ^ n := Nat.or_lt_two_pow hd (Nat.pow_lt_pow_right (by omega) hk)
theorem wrapW_pow {b : Nat} (hb : b < 62) : IntKind.i64.wrap ((2 : Int) ^ b) = ((2 ^ b : Nat) : Int) := by
  have h1 : (2 : Nat) ^ b < 2 ^ 62 := Nat.pow_lt_pow_right (by omega) hb
  have h2 : ((2 : Int) ^ b) = ((2 ^ b : Nat) : Int) := by simp
  rw [h2]
  generalize (2 : Nat) ^ b = x at h1
  exact IntWalk.i64_in _ (by omega)
theorem mask_orW {m b : Nat} (hm : m < 4611686018427387904) (hb : b < 62) : bits BinOp.or IntKind.i64 (m : Int) (IntKind.i64.wrap ((2 : Int) ^ b)) = ((m ||| 2 ^ b : Nat) : Int) := by
  have h1 : (2 : Nat) ^ b < 2 ^ 62 := Nat.pow_lt_pow_right (by omega) hb
  rw [wrapW_pow hb, bits_or m _ (by omega) (by omega)]
/-- The new row behind a made one's first store. -/
theorem made_first (N : Nat) : (List.replicate N (Value.int .i64 0)).set 0 (.int .i64 1) = intsRow ((List.replicate N 0).set 0 1) := by
  simp [intsRow, List.map_set]

set_option maxHeartbeats 4000000 in
theorem implCountOrders_any (w : World) (L : List Step) (V : Value) (hv : Steps w V L) (hn : L.length ≤ 1048576) :
    Calls Try.prog 28 #[V] w (RetIC (countF L) w) := by
  have Hv := Lib.hid hv
  clear hv
  cases h1 : isRecipe L
  · have H := Lib.hid (countF_bad h1)
    go_enter Try.func28, Try.ntmps28
    go_wp2_with fail
    refine (implIsRecipe_any w L _ Hv.out hn).mono ?_
    rintro e w2 ⟨rfl, hb2⟩
    rw [h1]
    go_wp2
    go_ret2
    exact RetIC.ok H.out hb2
  · obtain ⟨h9, hok, _⟩ := isRecipe_iff.1 h1
    have Hok := Lib.hid hok
    have H := Lib.hid (countF_ok h1)
    obtain ⟨N, hN⟩ : ∃ N, N = 2 ^ L.length := ⟨_, rfl⟩
    have hN1 : 1 ≤ N := by rw [hN]; exact Nat.two_pow_pos _
    have hN9 : N ≤ 512 := by rw [hN]; exact Nat.pow_le_pow_right (by omega) h9
    have p1 : wrap64 ((2 : Int) ^ L.length) = (N : Int) := by rw [wrap_pow (by omega), hN]
    have HNe := Lib.hid hN
    obtain ⟨i0, hi, hz0, hz1, hz2⟩ := info_parts Try.info_ints
    obtain ⟨A, c, rfl, hl, hc, _⟩ := Hv.out
    unfold maxLen at hc
    clear hok hN
    go_enter Try.func28, Try.ntmps28
    go_wp2_with fail
    refine (implIsRecipe_any w L _ Hv.out hn).mono ?_
    rintro e w2 ⟨rfl, hb2⟩
    rw [h1]
    have hsz2 := hb2.size
    have Hv2 := Lib.hid (Hv.out.below hb2)
    go_wp2_with (at_make; rw [p1]; (refine wpList_make_full _ rfl _ _ 29 rfl w2.heap.size 2 i0 _ 1 Try.underlying29 hi hz0 hz1 _ _ _ _ N rfl rfl rfl rfl ?b1 ?b2 ?b3 ?_))
    case b1 => rw [hz2]; omega
    case b2 => unfold maxLen; omega
    case b3 => exact Nat.le_refl _
    intro w3 hown hgr
    have hb3 := (Below.refl w2.heap.size w2).grown hgr (Nat.le_refl _) (fun _ h => by cases h)
    have hsz3 := hb3.size
    have hz : (madeCells #[Value.int .i64 0] N).toList = intsRow (List.replicate N 0) := by
      rw [toList_madeCells_one]; simp [intsRow]
    have Ho3 := Lib.hid (show w3.ownsRow w2.heap.size 2 1 (.slice (some ⟨w2.heap.size, 0, none⟩) N N) N (intsRow (List.replicate N 0)) by rw [← hz]; exact hown)
    have d0 := Ho3.out.cellAt 0 (by omega)
    rw [intsRow_at _ 0 (by simp; omega)] at d0
    have f0 := Ho3.out.frozenAt 0
    have Ho4 := Lib.hid (show (w3.setCell ⟨w2.heap.size, 0, none⟩ (.int .i64 1)).ownsRow w2.heap.size 2 1 (.slice (some ⟨w2.heap.size, 0, none⟩) N N) N (intsRow (cntOut L 0)) by
      rw [cntOut, ← HNe.out, ← intsRow_set]; exact (Ho3.out.stored 0 _).1)
    have hb4 : Below w2.heap.size w2 (w3.setCell ⟨w2.heap.size, 0, none⟩ (.int .i64 1)) := hb3.setCell (Nat.le_refl _) _
    have Hb4 := Lib.hid hb4
    have hglt : w2.heap.size < w3.heap.size := (World.ownsRow.lt Ho3.out _ rfl).2
    clear hown hgr hz hb4
    go_wp2
    go_loopw [19] (fun i wr => ∃ d : Nat, d ≤ N ∧ i = .int .i64 d ∧ wr.ownsRow w2.heap.size 2 1 (.slice (some ⟨w2.heap.size, 0, none⟩) N N) N (intsRow (cntOut L d)) ∧ Below w2.heap.size w2 wr) (fun i _ => N - (intOf i).toNat)
    case atStart => exact ⟨0, Nat.zero_le _, rfl, Ho4.out, Hb4.out⟩
    case round =>
      clear d0 f0
      obtain ⟨d, hd, rfl, ho, hb⟩ := hrel
      have Ho := Lib.hid ho
      have hol := cntOut_len L d
      rw [← HNe.out] at hol
      have hsz := hb.size
      clear ho
      by_cases hdl : d < N
      · have e0 := (Ho.out.cellAt d (by omega)).trans (intsRow_at (cntOut L d) d (by omega))
        obtain ⟨v, hv⟩ : ∃ v, v = intsAt (cntOut L d) d := ⟨_, rfl⟩
        rw [← hv] at e0
        have HVv := Lib.hid hv
        have HAt := Lib.hid (cntIn_at L d (cntOut L d) (fun k hk => by rw [hol, HNe.out]; exact bar_lt (by rw [← HNe.out]; exact hdl) hk))
        have Hol := Lib.hid hol
        have Hb := Lib.hid hb
        clear hv hol hb
        go_wp2
        clear e0
        go_loopw [26] (fun i wr => ∃ k : Nat, k ≤ L.length ∧ i = .int .i64 k ∧ wr.ownsRow w2.heap.size 2 1 (.slice (some ⟨w2.heap.size, 0, none⟩) N N) N (intsRow (cntIn L d (cntOut L d) k)) ∧ Below w2.heap.size w2 wr) (fun i _ => L.length - (intOf i).toNat)
        case atStart => exact ⟨0, Nat.zero_le _, rfl, Ho.out, Hb.out⟩
        case round =>
          clear Ho hsz
          obtain ⟨k, hk, rfl, ho, hb⟩ := hrel
          have Ho := Lib.hid ho
          have hsz := hb.size
          have Hvr := Lib.hid (Hv2.out.below hb)
          clear ho
          by_cases hkl : k < L.length
          · by_cases hv0 : 0 < v
            · have t0 : decide (0 < v) = true := by simpa using hv0
              cases hbit : d.testBit k
              · have t1 := mask_no0 (m := d) (b := k) (by omega) (by omega) hbit
                go_wp2_with fail
                refine (implReady_any _ L _ d k Hvr.out hkl (fun j hj => by have := steps_after Hok.out hkl hj; omega) (by omega)).mono ?_
                rintro e w5 ⟨rfl, rfl⟩
                cases hrd : readyM (stepAt L k) d
                · have HS := Lib.hid (cntIn_no (L := L) (d := d) (k := k) (ways := cntOut L d) (by simp [hrd]))
                  go_wp2
                  go_roundw
                  case rel => exact ⟨k + 1, by omega, by go_num, by rw [HS.out]; exact Ho.out, hb⟩
                  case measure => simp [intOf]; omega
                · have HS := Lib.hid (cntIn_yes (L := L) (d := d) (k := k) (ways := cntOut L d) (by rw [← HVv.out]; simp [hrd, hbit, hv0]))
                  have o1 := mask_or (m := d) (b := k) (by omega) (by omega)
                  have hjl : d ||| 2 ^ k < N := by rw [HNe.out]; exact bar_lt (by rw [← HNe.out]; exact hdl) hkl
                  have hjne := or_ne hbit
                  have hil := cntIn_len L d (cntOut L d) k
                  have o2 := mask_orW (m := d) (b := k) (by omega) (by omega)
                  obtain ⟨J, hJ⟩ : ∃ J, J = d ||| 2 ^ k := ⟨_, rfl⟩
                  rw [Hol.out] at hil
                  rw [← hJ] at o1 o2 hjl hjne HS
                  have Hil := Lib.hid hil
                  have e1 := (Ho.out.cellAt d (by omega)).trans (intsRow_at (cntIn L d (cntOut L d) k) d (by omega))
                  rw [HAt.out k (by omega), ← HVv.out] at e1
                  have e2 := (Ho.out.cellAt J (by omega)).trans (intsRow_at (cntIn L d (cntOut L d) k) J (by omega))
                  obtain ⟨u, hu⟩ : ∃ u, u = intsAt (cntIn L d (cntOut L d) k) J := ⟨_, rfl⟩
                  rw [← hu] at e2
                  have HU := Lib.hid hu
                  have f1 := Ho.out.frozenAt J
                  have i0' : (0 : Int) ≤ (d : Int) := Int.natCast_nonneg _
                  have i1 : (d : Int) < (N : Int) := by omega
                  have i2 : (0 : Int) ≤ (J : Int) := Int.natCast_nonneg _
                  have i3 : (J : Int) < (N : Int) := by omega
                  have i4 : (0 : Int) ≤ (k : Int) := Int.natCast_nonneg _
                  have i5 : (k : Int) < 64 := by omega
                  clear hu hil hJ
                  go_wp2
                  refine wp_region_held_drew (S := (fun w' => w'.cell? ⟨w2.heap.size, d, none⟩ = some (.int .i64 v))) (by kernel_rfl) ?_ (fun hHeld => ?_)
                  · (try dsimp only); first | assumption | (refine (World.cell?_setCell_other _ _ _ _ (fun e => hjne (congrArg Addr.off e))).trans ?_; assumption) | go_keep
                  refine wpAnyH_take (i := 0) (v := ?_) rfl (by kernel_rfl) (by kernel_rfl) (by kernel_rfl) (fun _ _ _ h => h) (Or.inl ⟨by rfl, ?_⟩) (by assumption) ?_
                  rotate_left
                  · (intro w hSw; (try dsimp only at hSw); go_simp) <;> with_reducible rfl
                  try simp only [Act.put, List.setIfInBounds_toArray, List.set_cons_zero, List.set_cons_succ, List.getElem_toArray, List.getElem_cons_succ, List.getElem_cons_zero]
                  refine wpAnyH_take (i := 1) (v := ?_) rfl (by kernel_rfl) (by kernel_rfl) (by kernel_rfl) (fun _ _ _ h => h) (Or.inl ⟨by rfl, ?_⟩) (by assumption) ?_
                  rotate_left
                  · (intro w hSw; (try dsimp only at hSw); go_simp) <;> with_reducible rfl
                  try simp only [Act.put, List.setIfInBounds_toArray, List.set_cons_zero, List.set_cons_succ, List.getElem_toArray, List.getElem_cons_succ, List.getElem_cons_zero]
                  refine wpAnyH_take (i := 2) (v := ?_) rfl (by kernel_rfl) (by kernel_rfl) (by kernel_rfl) (fun _ _ _ h => h) (Or.inl ⟨by rfl, ?_⟩) (by assumption) ?_
                  rotate_left
                  · (intro w hSw; (try dsimp only at hSw); go_simp) <;> with_reducible rfl
                  try simp only [Act.put, List.setIfInBounds_toArray, List.set_cons_zero, List.set_cons_succ, List.getElem_toArray, List.getElem_cons_succ, List.getElem_cons_zero]
                  refine wpAnyH_take (i := 3) (v := ?_) rfl (by kernel_rfl) (by kernel_rfl) (by kernel_rfl) (fun _ _ _ h => h) (Or.inl ⟨by rfl, ?_⟩) (by assumption) ?_
                  rotate_left
                  · (intro w hSw; (try dsimp only at hSw); go_simp) <;> with_reducible rfl
                  try simp only [Act.put, List.setIfInBounds_toArray, List.set_cons_zero, List.set_cons_succ, List.getElem_toArray, List.getElem_cons_succ, List.getElem_cons_zero]
                  refine wpAnyH_take (i := 4) (v := ?_) rfl (by kernel_rfl) (by kernel_rfl) (by kernel_rfl) (fun _ _ _ h => h) (Or.inl ⟨by rfl, ?_⟩) (by assumption) ?_
                  rotate_left
                  · (intro w hSw; (try dsimp only at hSw); go_simp) <;> with_reducible rfl
                  try simp only [Act.put, List.setIfInBounds_toArray, List.set_cons_zero, List.set_cons_succ, List.getElem_toArray, List.getElem_cons_succ, List.getElem_cons_zero]
                  refine wpAnyH_take (i := 5) (v := ?_) rfl (by kernel_rfl) (by kernel_rfl) (by kernel_rfl) (fun _ _ _ h => h) (Or.inl ⟨by rfl, ?_⟩) (by assumption) ?_
                  rotate_left
                  · (intro w hSw; (try dsimp only at hSw); go_simp) <;> with_reducible rfl
                  try simp only [Act.put, List.setIfInBounds_toArray, List.set_cons_zero, List.set_cons_succ, List.getElem_toArray, List.getElem_cons_succ, List.getElem_cons_zero]
                  refine wpAnyH_take (i := 7) (v := ?_) rfl (by kernel_rfl) (by kernel_rfl) (by kernel_rfl) (fun _ _ _ h => h) (Or.inl ⟨by rfl, ?_⟩) (by assumption) ?_
                  rotate_left
                  · (intro w hSw; (try dsimp only at hSw); go_simp) <;> with_reducible rfl
                  try simp only [Act.put, List.setIfInBounds_toArray, List.set_cons_zero, List.set_cons_succ, List.getElem_toArray, List.getElem_cons_succ, List.getElem_cons_zero]
                  refine wpAnyH_take (i := 8) (v := ?_) rfl (by kernel_rfl) (by kernel_rfl) (by kernel_rfl) (fun _ _ _ h => h) (Or.inl ⟨by rfl, ?_⟩) (by assumption) ?_
                  rotate_left
                  · (intro w hSw; (try dsimp only at hSw); go_simp) <;> with_reducible rfl
                  try simp only [Act.put, List.setIfInBounds_toArray, List.set_cons_zero, List.set_cons_succ, List.getElem_toArray, List.getElem_cons_succ, List.getElem_cons_zero]
                  refine wpAnyH_take (i := 9) (v := ?_) rfl (by kernel_rfl) (by kernel_rfl) (by kernel_rfl) (fun _ _ _ h => h) (Or.inl ⟨by rfl, ?_⟩) (by assumption) ?_
                  rotate_left
                  · (intro w hSw; (try dsimp only at hSw); go_simp) <;> with_reducible rfl
                  try simp only [Act.put, List.setIfInBounds_toArray, List.set_cons_zero, List.set_cons_succ, List.getElem_toArray, List.getElem_cons_succ, List.getElem_cons_zero]
                  refine wpAnyH_take (i := 10) (v := ?_) rfl (by kernel_rfl) (by kernel_rfl) (by kernel_rfl) (fun _ _ _ h => h) (Or.inl ⟨by rfl, ?_⟩) (by assumption) ?_
                  rotate_left
                  · (intro w hSw; (try dsimp only at hSw); go_simp) <;> with_reducible rfl
                  try simp only [Act.put, List.setIfInBounds_toArray, List.set_cons_zero, List.set_cons_succ, List.getElem_toArray, List.getElem_cons_succ, List.getElem_cons_zero]
                  refine wpAnyH_ready (rs := [6]) (by kernel_rfl) (by simp) ?_
                  refine AllReadyH.cons rfl (fun K hK => ?_) AllReadyH.nil
                  try dsimp only [List.getElem_toArray, List.getElem_cons_succ, List.getElem_cons_zero]
                  go_simp
                  refine hK.out _ _ ?_ (fun hHeld => ?_)
                  · (try dsimp only); first | assumption | (refine (World.cell?_setCell_other _ _ _ _ (fun e => hjne (congrArg Addr.off e))).trans ?_; assumption) | go_keep
                  clear hK K
                  try simp only [Act.put, List.setIfInBounds_toArray, List.set_cons_zero, List.set_cons_succ, List.getElem_toArray, List.getElem_cons_succ, List.getElem_cons_zero]
                  refine wpAnyH_take (i := 11) (v := ?_) rfl (by kernel_rfl) (by kernel_rfl) (by kernel_rfl) (fun _ _ _ h => h) (Or.inl ⟨by rfl, ?_⟩) (by assumption) ?_
                  rotate_left
                  · (intro w hSw; (try dsimp only at hSw); go_simp) <;> with_reducible rfl
                  try simp only [Act.put, List.setIfInBounds_toArray, List.set_cons_zero, List.set_cons_succ, List.getElem_toArray, List.getElem_cons_succ, List.getElem_cons_zero]
                  refine wpAnyH_take (i := 12) (v := ?_) rfl (by kernel_rfl) (by kernel_rfl) (by kernel_rfl) (fun _ _ _ h => h) (Or.inl ⟨by rfl, ?_⟩) (by assumption) ?_
                  rotate_left
                  · (intro w hSw; (try dsimp only at hSw); go_simp) <;> with_reducible rfl
                  try simp only [Act.put, List.setIfInBounds_toArray, List.set_cons_zero, List.set_cons_succ, List.getElem_toArray, List.getElem_cons_succ, List.getElem_cons_zero]
                  refine wpAnyH_ready (rs := [13]) (by kernel_rfl) (by simp) ?_
                  refine AllReadyH.cons rfl (fun K hK => ?_) AllReadyH.nil
                  try dsimp only [List.getElem_toArray, List.getElem_cons_succ, List.getElem_cons_zero]
                  go_simp
                  refine hK.out _ _ ?_ (fun hHeld => ?_)
                  · (try dsimp only); first | assumption | (refine (World.cell?_setCell_other _ _ _ _ (fun e => hjne (congrArg Addr.off e))).trans ?_; assumption) | go_keep
                  clear hK K
                  try simp only [Act.put, List.setIfInBounds_toArray, List.set_cons_zero, List.set_cons_succ, List.getElem_toArray, List.getElem_cons_succ, List.getElem_cons_zero]
                  refine wpAnyH_done (by kernel_rfl) ?_ _
                  have HC := Lib.hid (show ((wr.setCell ⟨w2.heap.size, J, none⟩ (.int .i64 (wrap64 (u + v)))).drew).ownsRow w2.heap.size 2 1 (.slice (some ⟨w2.heap.size, 0, none⟩) N N) N (intsRow (cntIn L d (cntOut L d) (k + 1))) by
                    rw [HS.out, ← HU.out, ← HVv.out, ← intsRow_set]
                    exact (Ho.out.stored J _).1.drew)
                  have hbq : Below w2.heap.size w2 ((wr.setCell ⟨w2.heap.size, J, none⟩ (.int .i64 (wrap64 (u + v)))).drew) := (hb.setCell (Nat.le_refl _) _).drew
                  clear hHeld e1 e2 f1
                  go_wp2
                  go_roundw
                  case rel => exact ⟨k + 1, by omega, by go_num, HC.out, hbq⟩
                  case measure => simp [intOf]; omega
              · have t1 := mask_yes0 (m := d) (b := k) (by omega) (by omega) hbit
                have HS := Lib.hid (cntIn_no (L := L) (d := d) (k := k) (ways := cntOut L d) (by simp [hbit]))
                go_wp2
                go_roundw
                case rel => exact ⟨k + 1, by omega, by go_num, by rw [HS.out]; exact Ho.out, hb⟩
                case measure => simp [intOf]; omega
            · have t0 : decide (0 < v) = false := by simpa using hv0
              have HS := Lib.hid (cntIn_no (L := L) (d := d) (k := k) (ways := cntOut L d) (by rw [← HVv.out, t0]; rfl))
              go_wp2
              go_roundw
              case rel => exact ⟨k + 1, by omega, by go_num, by rw [HS.out]; exact Ho.out, hb⟩
              case measure => simp [intOf]; omega
          · have hke : k = L.length := by omega
            subst hke
            go_wp2
            go_roundw
            case rel => exact ⟨d + 1, by omega, by go_num, Ho.out, hb⟩
            case measure => simp [intOf]; omega
      · have hde : d = N := by omega
        obtain ⟨q, hq⟩ : ∃ q, N = q + 1 := ⟨N - 1, by omega⟩
        have e0 := (Ho.out.cellAt q (by omega)).trans (intsRow_at (cntOut L d) q (by omega))
        have x1 : wrap64 ((N : Int) - 1) = (q : Int) := by rw [IntWalk.wrap64_in _ ⟨by omega, by omega⟩]; omega
        have x2 : (N : Int) - 1 = (q : Int) := by omega
        have HQ := Lib.hid (show countF L = (intsAt (cntOut L d) q, 0) by rw [H.out, ← HNe.out, hde, show N - 1 = q by omega])
        have i0' : (0 : Int) ≤ (q : Int) := Int.natCast_nonneg _
        have i1 : (q : Int) < (N : Int) := by omega
        have b5 := hb2.trans (hb.mono hsz2)
        have nlt : ¬ d < N := by omega
        clear hq hde
        go_wp2
        go_ret2
        exact RetIC.ok HQ.out b5

end Go.Proofs.Ytecfkomijaakhaa
