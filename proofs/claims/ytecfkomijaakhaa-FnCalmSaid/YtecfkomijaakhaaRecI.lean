/- Recipes: the walks of l21Bit, l21Members in the reference. -/
import Derived.Test.YtecfkomijaakhaaRecH
namespace Go.Proofs.Ytecfkomijaakhaa
open Go.RowKit Go.Sort

theorem wrapJ {J : Nat} (h : J < 512) : wrap64 (J : Int) = (J : Int) ∧ IntKind.i64.wrap (J : Int) = (J : Int) := ⟨IntWalk.wrap64_in _ ⟨by omega, by omega⟩, IntWalk.i64_in _ (by omega)⟩
theorem wrapU {k : Nat} (h : k < 62) : IntKind.u64.wrap (k : Int) = (k : Int) := by
  rw [IntKind.wrap_u64]; omega
theorem or_add {d k : Nat} (h : d.testBit k = false) : d ||| 2 ^ k = d + 2 ^ k := by
  have h1 : d &&& 2 ^ k = 0 := by rw [and_pow_ne, h]; simp
  obtain ⟨w, hd, hk⟩ : ∃ w, d < 2 ^ w ∧ 2 ^ k < 2 ^ w :=
    ⟨d + k + 1, Nat.lt_of_lt_of_le (Nat.lt_two_pow_self) (Nat.pow_le_pow_right (by omega) (by omega)), Nat.pow_lt_pow_right (by omega) (by omega)⟩
  have hs : 2 ^ (w + 1) = 2 ^ w + 2 ^ w := by rw [Nat.pow_succ]; omega
  have hd' : d < 2 ^ (w + 1) := by rw [hs]; omega
  have hk' : 2 ^ k < 2 ^ (w + 1) := by rw [hs]; omega
  have hs' : d + 2 ^ k < 2 ^ (w + 1) := by rw [hs]; omega
  have h2 := BitVec.add_eq_or_of_and_eq_zero (BitVec.ofNat (w + 1) d) (BitVec.ofNat (w + 1) (2 ^ k)) (by
    apply BitVec.eq_of_toNat_eq
    rw [BitVec.toNat_and, BitVec.toNat_ofNat, BitVec.toNat_ofNat, Nat.mod_eq_of_lt hd', Nat.mod_eq_of_lt hk', h1]; simp)
  have h3 := congrArg BitVec.toNat h2
  rw [BitVec.toNat_add, BitVec.toNat_or, BitVec.toNat_ofNat, BitVec.toNat_ofNat, Nat.mod_eq_of_lt hd', Nat.mod_eq_of_lt hk', Nat.mod_eq_of_lt hs'] at h3
  exact h3.symm

theorem bit_val {m i : Nat} (hm : m < 4611686018427387904) : (bits BinOp.and IntKind.i64 ((m : Int) / (2 : Int) ^ i) 1 == 1) = m.testBit i := by
  have e : ((m : Int) / (2 : Int) ^ i) = ((m / 2 ^ i : Nat) : Int) := by simp
  have h1 : m / 2 ^ i ≤ m := Nat.div_le_self _ _
  have h2 := bits_and (m / 2 ^ i) 1 (by omega) (by omega)
  rw [Nat.testBit_eq_decide_div_mod_eq, e]
  rw [show bits BinOp.and IntKind.i64 ((m / 2 ^ i : Nat) : Int) 1 = ((m / 2 ^ i &&& 1 : Nat) : Int) from h2, Nat.and_one_is_mod]
  rw [Bool.eq_iff_iff, beq_iff_eq, decide_eq_true_eq]
  omega

set_option maxHeartbeats 800000 in
theorem specBit_any (w : World) (m i : Nat) (hm : m < 4611686018427387904) (hi : i < 60) :
    Calls Try.prog 65 #[.int .i64 m, .int .i64 i] w fun e w' => e = .returned (.bool (m.testBit i)) ∧ w = w' := by
  go_enter Try.func65, Try.ntmps65
  go_wp2
  go_ret
  exact ⟨retB (bit_val hm), rfl⟩

/-- The members of a mask. -/
def membs (m n : Nat) : List Int := ((List.range n).filter fun i => m.testBit i).map fun (i : Nat) => (i : Int)
theorem membs_succ (m n : Nat) : membs m (n + 1) = if m.testBit n = true then membs m n ++ [(n : Int)] else membs m n := by
  unfold membs
  rw [List.range_succ, List.filter_append, List.map_append]
  by_cases h : m.testBit n = true
  · simp [h]
  · simp [h]
theorem membs_has (m n b : Nat) : hasI (membs m n) b = (decide (b < n) && m.testBit b) := by
  rw [Bool.eq_iff_iff, hasI_iff, membs]
  simp only [List.mem_map, List.mem_filter, List.mem_range, Bool.and_eq_true, decide_eq_true_eq]
  constructor
  · rintro ⟨a, h, e⟩
    obtain rfl : a = b := by omega
    exact h
  · intro h; exact ⟨b, h, rfl⟩
theorem membs_len (m : Nat) : ∀ n, (membs m n).length ≤ n
  | 0 => by simp [membs]
  | n + 1 => by
    have := membs_len m n
    rw [membs_succ]
    split
    · simp; omega
    · omega
theorem membs_ready {L : List Step} (hok : stepsOk L = true) {i : Nat} (hi : i < L.length) (m : Nat) : doneIn (stepAt L i) (membs m L.length) = readyM (stepAt L i) m := by
  unfold doneIn readyM
  rw [Bool.eq_iff_iff, List.all_eq_true, List.all_eq_true]
  have hb := (steps_bd hok hi).2.2.1
  constructor
  · intro h j hj
    obtain ⟨h0, h1⟩ := hb j hj
    have := h j hj
    rw [← Int.toNat_of_nonneg h0, membs_has] at this
    simp only [Bool.and_eq_true] at this
    exact this.2
  · intro h j hj
    obtain ⟨h0, h1⟩ := hb j hj
    rw [← Int.toNat_of_nonneg h0, membs_has, h j hj]
    simp; omega

set_option maxHeartbeats 2000000 in
theorem specMembers_any (w : World) (m n : Nat) (hm : m < 4611686018427387904) (hn : n < 60) :
    Calls Try.prog 66 #[.int .i64 m, .int .i64 n] w (Gives w.heap.size 2 1 (membs m n).length (intsRow (membs m n)) w) := by
  obtain ⟨i0, hi, hz0, hz1, hz2⟩ := info_parts Try.info_ints
  go_enter Try.func66, Try.ntmps66
  go_wp2
  go_loopw [5, 6] (fun o i wr => ∃ (k g co : Nat), k ≤ n ∧ i = .int .i64 k ∧ o = .slice (some ⟨g, 0, none⟩) (membs m k).length co ∧ wr.ownsRow w.heap.size 2 1 (.slice (some ⟨g, 0, none⟩) (membs m k).length co) (membs m k).length (intsRow (membs m k)) ∧ Below w.heap.size w wr) (fun _ i _ => n - (intOf i).toNat)
  case atStart => exact ⟨0, w.heap.size, 0, Nat.zero_le _, rfl, rfl, own_empty _ _ _ (Nat.le_refl _), (Below.refl _ _).alloc (Nat.le_refl _) _⟩
  case round =>
    obtain ⟨k, g, co, hk, rfl, rfl, ho, hb⟩ := hrel
    have Ho := Lib.hid ho
    have hsz := hb.size
    have hml := membs_len m k
    clear ho
    by_cases hlt : k < n
    · cases hbit : m.testBit k
      · have HM := Lib.hid (show membs m (k + 1) = membs m k by rw [membs_succ, hbit]; rfl)
        go_wp2_with fail
        refine (specBit_any _ m k hm (by omega)).mono ?_
        rintro e w2 ⟨rfl, rfl⟩
        rw [hbit]
        go_wp2
        go_roundw
        case rel => exact ⟨k + 1, g, co, by omega, by go_num, by rw [HM.out], by rw [HM.out]; exact Ho.out, hb⟩
        case measure => simp [intOf]; omega
      · have HM := Lib.hid (show membs m (k + 1) = membs m k ++ [(k : Int)] by rw [membs_succ, hbit]; rfl)
        go_wp2_with fail
        refine (specBit_any _ m k hm (by omega)).mono ?_
        rintro e w2 ⟨rfl, rfl⟩
        rw [hbit]
        go_wp2_with (at_builtin; refine wpList_append_sl _ rfl (.tmp 16) (.tmp 18) _ rfl w.heap.size 2 i0 _ 1 8 Try.underlying29 hi hz0 hz1 hz2 rfl (by omega) _ (membs m k).length (intsRow (membs m k)) rfl (Ho.out.alloc _) (some ⟨wr.heap.size, 0, none⟩) 1 1 [.int .i64 (k : Int)] rfl (Rd.of_block (cs := #[.int .i64 (k : Int)]) (heap_alloc_new _ _) rfl) (by intro x hx; simp at hx; subst hx; rfl) (by unfold maxLen; omega) (by omega) (by simp; omega) ?_; intro A9 c9 w9 ho9 hg9 hor9)
        have b9 : Below w.heap.size w w9 := (hb.alloc (by omega) _).grown hg9 (by simp; omega) (fun q hq => (World.ownsRow.lt Ho.out q hq).1)
        obtain ⟨g9, cx, hA9, _, _⟩ := own_form ho9 (by omega)
        injection hA9 with hA9
        subst hA9
        have Ho9 := Lib.hid ho9
        clear ho9 hg9 hor9
        go_roundw
        case rel =>
          refine ⟨k + 1, g9, c9, by omega, by go_num, ?_, ?_, b9⟩
          · rw [HM.out, List.length_append]; rfl
          · rw [HM.out, List.length_append, intsRow_append]; exact Ho9.out
        case measure => simp [intOf]; omega
    · have hke : k = n := by omega
      have HK := Lib.hid hke
      go_wp2
      go_ret
      exact ⟨_, rfl, by rw [← HK.out]; exact Ho.out, hb⟩

/-- An owned row behind draws. -/
theorem own_drewN0 {w : World} {base n size : Nat} {e : TypeId} {xs : List Value} {v : Value} (h : w.ownsRow base e size v n xs) (k : Nat) : (w.drewN k).ownsRow base e size v n xs := h

set_option maxHeartbeats 8000000 in
theorem specCountOrders_any (w : World) (L : List Step) (V : Value) (hv : Steps w V L) (hn : L.length ≤ 1048576) :
    Calls Try.prog 27 #[V] w (RetIC (countF L) w) := by
  have Hv := Lib.hid hv
  clear hv
  cases h1 : isRecipe L
  · have H := Lib.hid (countF_bad h1)
    go_enter Try.func27, Try.ntmps27
    go_wp2_with fail
    refine (specIsRecipe_any w L _ Hv.out hn).mono ?_
    rintro e w2 ⟨rfl, hb2⟩
    rw [h1]
    go_wp2
    go_ret2
    exact RetIC.ok H.out hb2
  · obtain ⟨h9, hok, _⟩ := isRecipe_iff.1 h1
    have Hok := Lib.hid hok
    have H := Lib.hid (countF_ok h1)
    obtain ⟨N, hN⟩ : ∃ N, N = 2 ^ L.length := ⟨_, rfl⟩
    have hN1 : 1 ≤ N := by rw [hN]; exact Nat.two_pow_pos _
    have hN9 : N ≤ 512 := by rw [hN]; exact Nat.pow_le_pow_right (by omega) h9
    have p1 : wrap64 ((2 : Int) ^ L.length) = (N : Int) := by rw [wrap_pow (by omega), hN]
    have HNe := Lib.hid hN
    obtain ⟨i0, hi, hz0, hz1, hz2⟩ := info_parts Try.info_ints
    obtain ⟨A, c, rfl, hl, hc, _⟩ := Hv.out
    unfold maxLen at hc
    clear hok hN
    go_enter Try.func27, Try.ntmps27
    go_wp2_with fail
    refine (specIsRecipe_any w L _ Hv.out hn).mono ?_
    rintro e w2 ⟨rfl, hb2⟩
    rw [h1]
    have hsz2 := hb2.size
    have Hv2 := Lib.hid (Hv.out.below hb2)
    obtain ⟨_, _, hVe, _, _, hr2⟩ := Hv2.out
    injection hVe with hVe _ _
    subst hVe
    have Hr2 := Lib.hid hr2
    clear hr2
    go_wp2_with (at_make; rw [p1]; (refine wpList_make_full _ rfl _ _ 29 rfl w2.heap.size 2 i0 _ 1 Try.underlying29 hi hz0 hz1 _ _ _ _ N rfl rfl rfl rfl ?b1 ?b2 ?b3 ?_))
    case b1 => rw [hz2]; omega
    case b2 => unfold maxLen; omega
    case b3 => exact Nat.le_refl _
    intro w3 hown hgr
    have hb3 := (Below.refl w2.heap.size w2).grown hgr (Nat.le_refl _) (fun _ h => by cases h)
    have hsz3 := hb3.size
    have hz : (madeCells #[Value.int .i64 0] N).toList = intsRow (List.replicate N 0) := by
      rw [toList_madeCells_one]; simp [intsRow]
    have Ho3 := Lib.hid (show w3.ownsRow w2.heap.size 2 1 (.slice (some ⟨w2.heap.size, 0, none⟩) N N) N (intsRow (List.replicate N 0)) by rw [← hz]; exact hown)
    have d0 := Ho3.out.cellAt 0 (by omega)
    rw [intsRow_at _ 0 (by simp; omega)] at d0
    have f0 := Ho3.out.frozenAt 0
    have Ho4 := Lib.hid (show (w3.setCell ⟨w2.heap.size, 0, none⟩ (.int .i64 1)).ownsRow w2.heap.size 2 1 (.slice (some ⟨w2.heap.size, 0, none⟩) N N) N (intsRow (cntOut L 0)) by
      rw [cntOut, ← HNe.out, ← intsRow_set]; exact (Ho3.out.stored 0 _).1)
    have hb4 : Below w2.heap.size w2 (w3.setCell ⟨w2.heap.size, 0, none⟩ (.int .i64 1)) := hb3.setCell (Nat.le_refl _) _
    have Hb4 := Lib.hid hb4
    have hglt : w2.heap.size < w3.heap.size := (World.ownsRow.lt Ho3.out _ rfl).2
    clear hown hgr hz hb4
    go_wp2
    go_loopw [6] (fun i wr => ∃ d : Nat, d ≤ N ∧ i = .int .i64 d ∧ wr.ownsRow w2.heap.size 2 1 (.slice (some ⟨w2.heap.size, 0, none⟩) N N) N (intsRow (cntOut L d)) ∧ Below w2.heap.size w2 wr) (fun i _ => N - (intOf i).toNat)
    case atStart => exact ⟨0, Nat.zero_le _, rfl, Ho4.out, Hb4.out⟩
    case round =>
      clear d0 f0
      obtain ⟨d, hd, rfl, ho, hb⟩ := hrel
      have Ho := Lib.hid ho
      have hol := cntOut_len L d
      rw [← HNe.out] at hol
      have hsz := hb.size
      clear ho
      by_cases hdl : d < N
      · obtain ⟨v, hv⟩ : ∃ v, v = intsAt (cntOut L d) d := ⟨_, rfl⟩
        have HVv := Lib.hid hv
        have HAt := Lib.hid (cntIn_at L d (cntOut L d) (fun k hk => by rw [hol, HNe.out]; exact bar_lt (by rw [← HNe.out]; exact hdl) hk))
        have Hol := Lib.hid hol
        have Hb := Lib.hid hb
        clear hv hol hb
        go_wp2
        go_loopw [7] (fun i wr => ∃ k : Nat, k ≤ L.length ∧ i = .int .i64 k ∧ wr.ownsRow w2.heap.size 2 1 (.slice (some ⟨w2.heap.size, 0, none⟩) N N) N (intsRow (cntIn L d (cntOut L d) k)) ∧ Below w2.heap.size w2 wr) (fun i _ => L.length - (intOf i).toNat)
        case atStart => exact ⟨0, Nat.zero_le _, rfl, Ho.out, Hb.out⟩
        case round =>
          clear Ho hsz
          obtain ⟨k, hk, rfl, ho, hb⟩ := hrel
          have Ho := Lib.hid ho
          have hsz := hb.size
          clear ho
          by_cases hkl : k < L.length
          · have hil := cntIn_len L d (cntOut L d) k
            rw [Hol.out] at hil
            have Hil := Lib.hid hil
            have e1 := (Ho.out.cellAt d (by omega)).trans (intsRow_at (cntIn L d (cntOut L d) k) d (by omega))
            rw [HAt.out k (by omega), ← HVv.out] at e1
            have i0' : (0 : Int) ≤ (d : Int) := Int.natCast_nonneg _
            have i1 : (d : Int) < (N : Int) := by omega
            have i4 : (0 : Int) ≤ (k : Int) := Int.natCast_nonneg _
            have i6 : (k : Int) < (L.length : Int) := by omega
            clear hil
            by_cases hv0 : 0 < v
            · have t0 : decide (0 < v) = true := by simpa using hv0
              cases hbit : d.testBit k
              · obtain ⟨gs, os, rfl, hgs, c0, c1, B, cc, c2, hcc, hcm, hrd⟩ := (Hr2.out.below hb).at hkl
                have Hrd := Lib.hid hrd
                have hgw := (World.ownsRow.lt Ho.out _ rfl).2
                clear hrd
                go_wp2
                refine wp_region_held_drew (S := (fun w' => w'.cell? ⟨w2.heap.size, d, none⟩ = some (.int .i64 v) ∧ w'.cell? ⟨gs, os + k * 3, none⟩ = some (.int .i64 (stepAt L k).minutes) ∧ w'.cell? ⟨gs, os + k * 3 + 1, none⟩ = some (.int .i64 (stepAt L k).tool) ∧ w'.cell? ⟨gs, os + k * 3 + 2, none⟩ = some (.slice B (stepAt L k).after.length cc))) (by kernel_rfl) ?_ (fun hHeld => ?_)
                · (try dsimp only); first | assumption | (go_keep; done) | (refine ⟨by assumption, by assumption, by assumption, by assumption⟩) | (go_split_ands; refine ⟨?_, ?_, ?_, ?_⟩ <;> (rw [hb6.cell (by simp; omega)]; assumption)) | (go_split_ands; refine ⟨?_, ?_, ?_, ?_⟩ <;> (rw [hb7.cell (by simp; omega)]; assumption))
                refine wpAnyH_take (i := 0) (v := ?_) rfl (by kernel_rfl) (by kernel_rfl) (by kernel_rfl) (fun _ _ _ h => h) (Or.inl ⟨by rfl, ?_⟩) (by assumption) ?_
                rotate_left
                · (intro w hSw; (try dsimp only at hSw); go_simp) <;> with_reducible rfl
                try simp only [Act.put, List.setIfInBounds_toArray, List.set_cons_zero, List.set_cons_succ, List.getElem_toArray, List.getElem_cons_succ, List.getElem_cons_zero]
                refine wpAnyH_take (i := 1) (v := ?_) rfl (by kernel_rfl) (by kernel_rfl) (by kernel_rfl) (fun _ _ _ h => h) (Or.inl ⟨by rfl, ?_⟩) (by assumption) ?_
                rotate_left
                · (intro w hSw; (try dsimp only at hSw); go_simp) <;> with_reducible rfl
                try simp only [Act.put, List.setIfInBounds_toArray, List.set_cons_zero, List.set_cons_succ, List.getElem_toArray, List.getElem_cons_succ, List.getElem_cons_zero]
                refine wpAnyH_take (i := 2) (v := ?_) rfl (by kernel_rfl) (by kernel_rfl) (by kernel_rfl) (fun _ _ _ h => h) (Or.inl ⟨by rfl, ?_⟩) (by assumption) ?_
                rotate_left
                · (intro w hSw; (try dsimp only at hSw); go_simp) <;> with_reducible rfl
                try simp only [Act.put, List.setIfInBounds_toArray, List.set_cons_zero, List.set_cons_succ, List.getElem_toArray, List.getElem_cons_succ, List.getElem_cons_zero]
                refine wpAnyH_take (i := 3) (v := ?_) rfl (by kernel_rfl) (by kernel_rfl) (by kernel_rfl) (fun _ _ _ h => h) (Or.inl ⟨by rfl, ?_⟩) (by assumption) ?_
                rotate_left
                · (intro w hSw; (try dsimp only at hSw); go_simp) <;> with_reducible rfl
                try simp only [Act.put, List.setIfInBounds_toArray, List.set_cons_zero, List.set_cons_succ, List.getElem_toArray, List.getElem_cons_succ, List.getElem_cons_zero]
                refine wpAnyH_take (i := 4) (v := ?_) rfl (by kernel_rfl) (by kernel_rfl) (by kernel_rfl) (fun _ _ _ h => h) (Or.inl ⟨by rfl, ?_⟩) (by assumption) ?_
                rotate_left
                · (intro w hSw; (try dsimp only at hSw); go_simp) <;> with_reducible rfl
                try simp only [Act.put, List.setIfInBounds_toArray, List.set_cons_zero, List.set_cons_succ, List.getElem_toArray, List.getElem_cons_succ, List.getElem_cons_zero]
                refine wpAnyH_take (i := 5) (v := ?_) rfl (by kernel_rfl) (by kernel_rfl) (by kernel_rfl) (fun _ _ _ h => h) (Or.inl ⟨by rfl, ?_⟩) (by assumption) ?_
                rotate_left
                · (intro w hSw; (try dsimp only at hSw); go_simp) <;> with_reducible rfl
                try simp only [Act.put, List.setIfInBounds_toArray, List.set_cons_zero, List.set_cons_succ, List.getElem_toArray, List.getElem_cons_succ, List.getElem_cons_zero]
                refine wpAnyH_take (i := 6) (v := ?_) rfl (by kernel_rfl) (by kernel_rfl) (by kernel_rfl) (fun _ _ _ h => h) (Or.inl ⟨by rfl, ?_⟩) (by assumption) ?_
                rotate_left
                · (intro w hSw; (try dsimp only at hSw); go_simp) <;> with_reducible rfl
                try simp only [Act.put, List.setIfInBounds_toArray, List.set_cons_zero, List.set_cons_succ, List.getElem_toArray, List.getElem_cons_succ, List.getElem_cons_zero]
                refine wpAnyH_take (i := 7) (v := ?_) rfl (by kernel_rfl) (by kernel_rfl) (by kernel_rfl) (fun _ _ _ h => h) (Or.inl ⟨by rfl, ?_⟩) (by assumption) ?_
                rotate_left
                · (intro w hSw; (try dsimp only at hSw); go_simp) <;> with_reducible rfl
                try simp only [Act.put, List.setIfInBounds_toArray, List.set_cons_zero, List.set_cons_succ, List.getElem_toArray, List.getElem_cons_succ, List.getElem_cons_zero]
                refine wpAnyH_ready (rs := [8]) (by kernel_rfl) (by simp) ?_
                refine AllReadyH.cons rfl (fun K hK => ?_) AllReadyH.nil
                try dsimp only [List.getElem_toArray, List.getElem_cons_succ, List.getElem_cons_zero]
                go_simp
                refine (specBit_any _ d k (by omega) (by omega)).mono ?_
                rintro e w5 ⟨rfl, rfl⟩
                rw [hbit]
                go_wp2_with fail
                refine hK.out _ _ ?_ (fun hHeld => ?_)
                · (try dsimp only); first | assumption | (go_keep; done) | (refine ⟨by assumption, by assumption, by assumption, by assumption⟩) | (go_split_ands; refine ⟨?_, ?_, ?_, ?_⟩ <;> (rw [hb6.cell (by simp; omega)]; assumption)) | (go_split_ands; refine ⟨?_, ?_, ?_, ?_⟩ <;> (rw [hb7.cell (by simp; omega)]; assumption))
                clear hK K
                try simp only [Act.put, List.setIfInBounds_toArray, List.set_cons_zero, List.set_cons_succ, List.getElem_toArray, List.getElem_cons_succ, List.getElem_cons_zero]
                refine wpAnyH_take (i := 9) (v := ?_) rfl (by kernel_rfl) (by kernel_rfl) (by kernel_rfl) (fun _ _ _ h => h) (Or.inl ⟨by rfl, ?_⟩) (by assumption) ?_
                rotate_left
                · (intro w hSw; (try dsimp only at hSw); go_simp) <;> with_reducible rfl
                try simp only [Act.put, List.setIfInBounds_toArray, List.set_cons_zero, List.set_cons_succ, List.getElem_toArray, List.getElem_cons_succ, List.getElem_cons_zero]
                refine wpAnyH_take (i := 10) (v := ?_) rfl (by kernel_rfl) (by kernel_rfl) (by kernel_rfl) (fun _ _ _ h => h) (Or.inl ⟨by rfl, ?_⟩) (by assumption) ?_
                rotate_left
                · (intro w hSw; (try dsimp only at hSw); go_simp) <;> with_reducible rfl
                try simp only [Act.put, List.setIfInBounds_toArray, List.set_cons_zero, List.set_cons_succ, List.getElem_toArray, List.getElem_cons_succ, List.getElem_cons_zero]
                refine wpAnyH_take (i := 11) (v := ?_) rfl (by kernel_rfl) (by kernel_rfl) (by kernel_rfl) (fun _ _ _ h => h) (Or.inl ⟨by rfl, ?_⟩) (by assumption) ?_
                rotate_left
                · (intro w hSw; (try dsimp only at hSw); go_simp) <;> with_reducible rfl
                try simp only [Act.put, List.setIfInBounds_toArray, List.set_cons_zero, List.set_cons_succ, List.getElem_toArray, List.getElem_cons_succ, List.getElem_cons_zero]
                refine wpAnyH_take (i := 12) (v := ?_) rfl (by kernel_rfl) (by kernel_rfl) (by kernel_rfl) (fun _ _ _ h => h) (Or.inl ⟨by rfl, ?_⟩) (by assumption) ?_
                rotate_left
                · (intro w hSw; (try dsimp only at hSw); go_simp) <;> with_reducible rfl
                try simp only [Act.put, List.setIfInBounds_toArray, List.set_cons_zero, List.set_cons_succ, List.getElem_toArray, List.getElem_cons_succ, List.getElem_cons_zero]
                refine wpAnyH_take (i := 13) (v := ?_) rfl (by kernel_rfl) (by kernel_rfl) (by kernel_rfl) (fun _ _ _ h => h) (Or.inl ⟨by rfl, ?_⟩) (by assumption) ?_
                rotate_left
                · (intro w hSw; (try dsimp only at hSw); go_simp) <;> with_reducible rfl
                try simp only [Act.put, List.setIfInBounds_toArray, List.set_cons_zero, List.set_cons_succ, List.getElem_toArray, List.getElem_cons_succ, List.getElem_cons_zero]
                refine wpAnyH_take (i := 14) (v := ?_) rfl (by kernel_rfl) (by kernel_rfl) (by kernel_rfl) (fun _ _ _ h => h) (Or.inl ⟨by rfl, ?_⟩) (by assumption) ?_
                rotate_left
                · (intro w hSw; (try dsimp only at hSw); go_simp) <;> with_reducible rfl
                try simp only [Act.put, List.setIfInBounds_toArray, List.set_cons_zero, List.set_cons_succ, List.getElem_toArray, List.getElem_cons_succ, List.getElem_cons_zero]
                refine wpAnyH_take (i := 15) (v := ?_) rfl (by kernel_rfl) (by kernel_rfl) (by kernel_rfl) (fun _ _ _ h => h) (Or.inl ⟨by rfl, ?_⟩) (by assumption) ?_
                rotate_left
                · (intro w hSw; (try dsimp only at hSw); go_simp) <;> with_reducible rfl
                try simp only [Act.put, List.setIfInBounds_toArray, List.set_cons_zero, List.set_cons_succ, List.getElem_toArray, List.getElem_cons_succ, List.getElem_cons_zero]
                refine wpAnyH_take (i := 16) (v := ?_) rfl (by kernel_rfl) (by kernel_rfl) (by kernel_rfl) (fun _ _ _ h => h) (Or.inl ⟨by rfl, ?_⟩) (by assumption) ?_
                rotate_left
                · (intro w hSw; (try dsimp only at hSw); go_simp) <;> with_reducible rfl
                try simp only [Act.put, List.setIfInBounds_toArray, List.set_cons_zero, List.set_cons_succ, List.getElem_toArray, List.getElem_cons_succ, List.getElem_cons_zero]
                refine wpAnyH_take (i := 17) (v := ?_) rfl (by kernel_rfl) (by kernel_rfl) (by kernel_rfl) (fun _ _ _ h => h) (Or.inl ⟨by rfl, ?_⟩) (by assumption) ?_
                rotate_left
                · (intro w hSw; (try dsimp only at hSw); go_simp) <;> with_reducible rfl
                try simp only [Act.put, List.setIfInBounds_toArray, List.set_cons_zero, List.set_cons_succ, List.getElem_toArray, List.getElem_cons_succ, List.getElem_cons_zero]
                refine wpAnyH_ready (rs := [18]) (by kernel_rfl) (by simp) ?_
                refine AllReadyH.cons rfl (fun K hK => ?_) AllReadyH.nil
                try dsimp only [List.getElem_toArray, List.getElem_cons_succ, List.getElem_cons_zero]
                go_simp
                refine (specMembers_any _ d L.length (by omega) (by omega)).mono ?_
                rintro e w6 ⟨y, rfl, hy, hb6⟩
                have hb6s := hb6.size
                simp at hb6s
                have Hy := Lib.hid hy
                clear hy
                go_wp2_with fail
                refine hK.out _ _ ?_ (fun hHeld => ?_)
                · (try dsimp only); first | assumption | (go_keep; done) | (refine ⟨by assumption, by assumption, by assumption, by assumption⟩) | (go_split_ands; refine ⟨?_, ?_, ?_, ?_⟩ <;> (rw [hb6.cell (by simp; omega)]; assumption)) | (go_split_ands; refine ⟨?_, ?_, ?_, ?_⟩ <;> (rw [hb7.cell (by simp; omega)]; assumption))
                clear hK K
                try simp only [Act.put, List.setIfInBounds_toArray, List.set_cons_zero, List.set_cons_succ, List.getElem_toArray, List.getElem_cons_succ, List.getElem_cons_zero]
                refine wpAnyH_ready (rs := [19]) (by kernel_rfl) (by simp) ?_
                refine AllReadyH.cons rfl (fun K hK => ?_) AllReadyH.nil
                try dsimp only [List.getElem_toArray, List.getElem_cons_succ, List.getElem_cons_zero]
                go_simp
                refine (specDone_any _ (stepAt L k) B cc (membs d L.length) _ ((Rd.drew' Hrd.out).below' hb6) hcc hcm (Sl.of_own Hy.out)).mono ?_
                rintro e w7 ⟨rfl, hb7⟩
                rw [membs_ready Hok.out hkl d]
                have hb7s := hb7.size
                go_wp2_with fail
                refine hK.out _ _ ?_ (fun hHeld => ?_)
                · (try dsimp only); first | assumption | (go_keep; done) | (refine ⟨by assumption, by assumption, by assumption, by assumption⟩) | (go_split_ands; refine ⟨?_, ?_, ?_, ?_⟩ <;> (rw [hb6.cell (by simp; omega)]; assumption)) | (go_split_ands; refine ⟨?_, ?_, ?_, ?_⟩ <;> (rw [hb7.cell (by simp; omega)]; assumption))
                clear hK K
                try simp only [Act.put, List.setIfInBounds_toArray, List.set_cons_zero, List.set_cons_succ, List.getElem_toArray, List.getElem_cons_succ, List.getElem_cons_zero]
                refine wpAnyH_take (i := 20) (v := ?_) rfl (by kernel_rfl) (by kernel_rfl) (by kernel_rfl) (fun _ _ _ h => h) (Or.inl ⟨by rfl, ?_⟩) (by assumption) ?_
                rotate_left
                · (intro w hSw; (try dsimp only at hSw); go_simp) <;> with_reducible rfl
                try simp only [Act.put, List.setIfInBounds_toArray, List.set_cons_zero, List.set_cons_succ, List.getElem_toArray, List.getElem_cons_succ, List.getElem_cons_zero]
                refine wpAnyH_done (by kernel_rfl) ?_ _
                have bq : Below w2.heap.size w2 w7 := (hb.drew.trans (hb6.mono (by simpa using hsz))).trans (hb7.mono (by omega))
                have Oq := Lib.hid (own_below (own_below Ho.out.drew hb6) hb7)
                have hsz7 := bq.size
                clear hHeld hb6 hb7 c0 c1 c2 e1 Hy Ho
                cases hrdy : readyM (stepAt L k) d
                · have HS := Lib.hid (cntIn_no (L := L) (d := d) (k := k) (ways := cntOut L d) (by simp [hrdy]))
                  go_wp2
                  go_roundw
                  case rel => exact ⟨k + 1, by omega, by go_num, by rw [HS.out]; exact Oq.out, bq⟩
                  case measure => simp [intOf]; omega
                · have HS := Lib.hid (cntIn_yes (L := L) (d := d) (k := k) (ways := cntOut L d) (by rw [← HVv.out]; simp [hrdy, hbit, hv0]))
                  have hjl : d ||| 2 ^ k < N := by rw [HNe.out]; exact bar_lt (by rw [← HNe.out]; exact hdl) hkl
                  have hjne := or_ne hbit
                  obtain ⟨J, hJ⟩ : ∃ J, J = d ||| 2 ^ k := ⟨_, rfl⟩
                  have oJ := or_add hbit
                  rw [← hJ] at hjl hjne HS oJ
                  have OJ := Lib.hid oJ
                  clear hJ oJ
                  have OW := Lib.hid (wrapJ (Nat.lt_of_lt_of_le hjl hN9))
                  have hdN : d < N * 1 := by omega
                  have hJN : J < N * 1 := by omega
                  have e1 := (Oq.out.cellAt d hdN).trans (intsRow_at (cntIn L d (cntOut L d) k) d (by rw [Hil.out]; exact hdl))
                  rw [HAt.out k (by omega), ← HVv.out] at e1
                  have e2 := (Oq.out.cellAt J hJN).trans (intsRow_at (cntIn L d (cntOut L d) k) J (by rw [Hil.out]; exact hjl))
                  obtain ⟨u, hu⟩ : ∃ u, u = intsAt (cntIn L d (cntOut L d) k) J := ⟨_, rfl⟩
                  rw [← hu] at e2
                  have HU := Lib.hid hu
                  have f1 := Oq.out.frozenAt J
                  have i2 : (0 : Int) ≤ (J : Int) := Int.natCast_nonneg _
                  have i3 : (J : Int) < (N : Int) := by omega
                  have i5 : (k : Int) < 64 := by omega
                  clear hu
                  have hk62 : k < 62 := by omega
                  obtain ⟨o4, o5⟩ := OW.out
                  have o6 := wrapU hk62
                  have o7 : min k 64 = k := Nat.min_eq_left (Nat.le_of_lt (Nat.lt_of_lt_of_le hk62 (by decide)))
                  have o1 : (d : Int) + (2 : Int) ^ k = (J : Int) := by rw [OJ.out]; simp
                  have o2 : wrap64 ((2 : Int) ^ k) = (2 : Int) ^ k := by rw [wrap_pow hk62]; simp
                  have o3 : IntKind.i64.wrap ((2 : Int) ^ k) = (2 : Int) ^ k := by rw [wrapW_pow hk62]; simp
                  go_wp2
                  refine wp_region_held_drew (S := (fun w' => w'.cell? ⟨w2.heap.size, d, none⟩ = some (.int .i64 v))) (by kernel_rfl) ?_ (fun hHeld => ?_)
                  · (try dsimp only); first | assumption | (refine (World.cell?_setCell_other _ _ _ _ (fun e => hjne (congrArg Addr.off e))).trans ?_; assumption) | go_keep
                  refine wpAnyH_take (i := 0) (v := ?_) rfl (by kernel_rfl) (by kernel_rfl) (by kernel_rfl) (fun _ _ _ h => h) (Or.inl ⟨by rfl, ?_⟩) (by assumption) ?_
                  rotate_left
                  · (intro w hSw; (try dsimp only at hSw); go_simp) <;> with_reducible rfl
                  try simp only [Act.put, List.setIfInBounds_toArray, List.set_cons_zero, List.set_cons_succ, List.getElem_toArray, List.getElem_cons_succ, List.getElem_cons_zero]
                  refine wpAnyH_take (i := 1) (v := ?_) rfl (by kernel_rfl) (by kernel_rfl) (by kernel_rfl) (fun _ _ _ h => h) (Or.inl ⟨by rfl, ?_⟩) (by assumption) ?_
                  rotate_left
                  · (intro w hSw; (try dsimp only at hSw); go_simp) <;> with_reducible rfl
                  try simp only [Act.put, List.setIfInBounds_toArray, List.set_cons_zero, List.set_cons_succ, List.getElem_toArray, List.getElem_cons_succ, List.getElem_cons_zero]
                  refine wpAnyH_take (i := 2) (v := ?_) rfl (by kernel_rfl) (by kernel_rfl) (by kernel_rfl) (fun _ _ _ h => h) (Or.inl ⟨by rfl, ?_⟩) (by assumption) ?_
                  rotate_left
                  · (intro w hSw; (try dsimp only at hSw); go_simp) <;> with_reducible rfl
                  try simp only [Act.put, List.setIfInBounds_toArray, List.set_cons_zero, List.set_cons_succ, List.getElem_toArray, List.getElem_cons_succ, List.getElem_cons_zero]
                  refine wpAnyH_take (i := 3) (v := ?_) rfl (by kernel_rfl) (by kernel_rfl) (by kernel_rfl) (fun _ _ _ h => h) (Or.inl ⟨by rfl, ?_⟩) (by assumption) ?_
                  rotate_left
                  · (intro w hSw; (try dsimp only at hSw); go_simp) <;> with_reducible rfl
                  try simp only [Act.put, List.setIfInBounds_toArray, List.set_cons_zero, List.set_cons_succ, List.getElem_toArray, List.getElem_cons_succ, List.getElem_cons_zero]
                  refine wpAnyH_take (i := 4) (v := ?_) rfl (by kernel_rfl) (by kernel_rfl) (by kernel_rfl) (fun _ _ _ h => h) (Or.inl ⟨by rfl, ?_⟩) (by assumption) ?_
                  rotate_left
                  · (intro w hSw; (try dsimp only at hSw); go_simp) <;> with_reducible rfl
                  try simp only [Act.put, List.setIfInBounds_toArray, List.set_cons_zero, List.set_cons_succ, List.getElem_toArray, List.getElem_cons_succ, List.getElem_cons_zero]
                  refine wpAnyH_take (i := 5) (v := ?_) rfl (by kernel_rfl) (by kernel_rfl) (by kernel_rfl) (fun _ _ _ h => h) (Or.inl ⟨by rfl, ?_⟩) (by assumption) ?_
                  rotate_left
                  · (intro w hSw; (try dsimp only at hSw); go_simp) <;> with_reducible rfl
                  try simp only [Act.put, List.setIfInBounds_toArray, List.set_cons_zero, List.set_cons_succ, List.getElem_toArray, List.getElem_cons_succ, List.getElem_cons_zero]
                  refine wpAnyH_take (i := 6) (v := ?_) rfl (by kernel_rfl) (by kernel_rfl) (by kernel_rfl) (fun _ _ _ h => h) (Or.inl ⟨by rfl, ?_⟩) (by assumption) ?_
                  rotate_left
                  · (intro w hSw; (try dsimp only at hSw); go_simp) <;> with_reducible rfl
                  try simp only [Act.put, List.setIfInBounds_toArray, List.set_cons_zero, List.set_cons_succ, List.getElem_toArray, List.getElem_cons_succ, List.getElem_cons_zero]
                  refine wpAnyH_take (i := 7) (v := ?_) rfl (by kernel_rfl) (by kernel_rfl) (by kernel_rfl) (fun _ _ _ h => h) (Or.inl ⟨by rfl, ?_⟩) (by assumption) ?_
                  rotate_left
                  · (intro w hSw; (try dsimp only at hSw); go_simp) <;> with_reducible rfl
                  try simp only [Act.put, List.setIfInBounds_toArray, List.set_cons_zero, List.set_cons_succ, List.getElem_toArray, List.getElem_cons_succ, List.getElem_cons_zero]
                  refine wpAnyH_take (i := 8) (v := ?_) rfl (by kernel_rfl) (by kernel_rfl) (by kernel_rfl) (fun _ _ _ h => h) (Or.inl ⟨by rfl, ?_⟩) (by assumption) ?_
                  rotate_left
                  · (intro w hSw; (try dsimp only at hSw); go_simp) <;> with_reducible rfl
                  try simp only [Act.put, List.setIfInBounds_toArray, List.set_cons_zero, List.set_cons_succ, List.getElem_toArray, List.getElem_cons_succ, List.getElem_cons_zero]
                  refine wpAnyH_take (i := 9) (v := ?_) rfl (by kernel_rfl) (by kernel_rfl) (by kernel_rfl) (fun _ _ _ h => h) (Or.inl ⟨by rfl, ?_⟩) (by assumption) ?_
                  rotate_left
                  · (intro w hSw; (try dsimp only at hSw); go_simp) <;> with_reducible rfl
                  try simp only [Act.put, List.setIfInBounds_toArray, List.set_cons_zero, List.set_cons_succ, List.getElem_toArray, List.getElem_cons_succ, List.getElem_cons_zero]
                  refine wpAnyH_take (i := 10) (v := ?_) rfl (by kernel_rfl) (by kernel_rfl) (by kernel_rfl) (fun _ _ _ h => h) (Or.inl ⟨by rfl, ?_⟩) (by assumption) ?_
                  rotate_left
                  · (intro w hSw; (try dsimp only at hSw); go_simp) <;> with_reducible rfl
                  try simp only [Act.put, List.setIfInBounds_toArray, List.set_cons_zero, List.set_cons_succ, List.getElem_toArray, List.getElem_cons_succ, List.getElem_cons_zero]
                  refine wpAnyH_take (i := 11) (v := ?_) rfl (by kernel_rfl) (by kernel_rfl) (by kernel_rfl) (fun _ _ _ h => h) (Or.inl ⟨by rfl, ?_⟩) (by assumption) ?_
                  rotate_left
                  · (intro w hSw; (try dsimp only at hSw); go_simp) <;> with_reducible rfl
                  try simp only [Act.put, List.setIfInBounds_toArray, List.set_cons_zero, List.set_cons_succ, List.getElem_toArray, List.getElem_cons_succ, List.getElem_cons_zero]
                  refine wpAnyH_take (i := 12) (v := ?_) rfl (by kernel_rfl) (by kernel_rfl) (by kernel_rfl) (fun _ _ _ h => h) (Or.inl ⟨by rfl, ?_⟩) (by assumption) ?_
                  rotate_left
                  · (intro w hSw; (try dsimp only at hSw); go_simp) <;> with_reducible rfl
                  try simp only [Act.put, List.setIfInBounds_toArray, List.set_cons_zero, List.set_cons_succ, List.getElem_toArray, List.getElem_cons_succ, List.getElem_cons_zero]
                  refine wpAnyH_take (i := 14) (v := ?_) rfl (by kernel_rfl) (by kernel_rfl) (by kernel_rfl) (fun _ _ _ h => h) (Or.inl ⟨by rfl, ?_⟩) (by assumption) ?_
                  rotate_left
                  · (intro w hSw; (try dsimp only at hSw); go_simp) <;> with_reducible rfl
                  try simp only [Act.put, List.setIfInBounds_toArray, List.set_cons_zero, List.set_cons_succ, List.getElem_toArray, List.getElem_cons_succ, List.getElem_cons_zero]
                  refine wpAnyH_take (i := 15) (v := ?_) rfl (by kernel_rfl) (by kernel_rfl) (by kernel_rfl) (fun _ _ _ h => h) (Or.inl ⟨by rfl, ?_⟩) (by assumption) ?_
                  rotate_left
                  · (intro w hSw; (try dsimp only at hSw); go_simp) <;> with_reducible rfl
                  try simp only [Act.put, List.setIfInBounds_toArray, List.set_cons_zero, List.set_cons_succ, List.getElem_toArray, List.getElem_cons_succ, List.getElem_cons_zero]
                  refine wpAnyH_take (i := 16) (v := ?_) rfl (by kernel_rfl) (by kernel_rfl) (by kernel_rfl) (fun _ _ _ h => h) (Or.inl ⟨by rfl, ?_⟩) (by assumption) ?_
                  rotate_left
                  · (intro w hSw; (try dsimp only at hSw); go_simp) <;> with_reducible rfl
                  try simp only [Act.put, List.setIfInBounds_toArray, List.set_cons_zero, List.set_cons_succ, List.getElem_toArray, List.getElem_cons_succ, List.getElem_cons_zero]
                  refine wpAnyH_take (i := 17) (v := ?_) rfl (by kernel_rfl) (by kernel_rfl) (by kernel_rfl) (fun _ _ _ h => h) (Or.inl ⟨by rfl, ?_⟩) (by assumption) ?_
                  rotate_left
                  · (intro w hSw; (try dsimp only at hSw); go_simp) <;> with_reducible rfl
                  try simp only [Act.put, List.setIfInBounds_toArray, List.set_cons_zero, List.set_cons_succ, List.getElem_toArray, List.getElem_cons_succ, List.getElem_cons_zero]
                  refine wpAnyH_ready (rs := [13]) (by kernel_rfl) (by simp) ?_
                  refine AllReadyH.cons rfl (fun K hK => ?_) AllReadyH.nil
                  try dsimp only [List.getElem_toArray, List.getElem_cons_succ, List.getElem_cons_zero]
                  go_simp
                  refine hK.out _ _ ?_ (fun hHeld => ?_)
                  · (try dsimp only); first | assumption | (refine (World.cell?_setCell_other _ _ _ _ (fun e => hjne (congrArg Addr.off e))).trans ?_; assumption) | go_keep
                  clear hK K
                  try simp only [Act.put, List.setIfInBounds_toArray, List.set_cons_zero, List.set_cons_succ, List.getElem_toArray, List.getElem_cons_succ, List.getElem_cons_zero]
                  refine wpAnyH_take (i := 18) (v := ?_) rfl (by kernel_rfl) (by kernel_rfl) (by kernel_rfl) (fun _ _ _ h => h) (Or.inl ⟨by rfl, ?_⟩) (by assumption) ?_
                  rotate_left
                  · (intro w hSw; (try dsimp only at hSw); go_simp) <;> with_reducible rfl
                  try simp only [Act.put, List.setIfInBounds_toArray, List.set_cons_zero, List.set_cons_succ, List.getElem_toArray, List.getElem_cons_succ, List.getElem_cons_zero]
                  refine wpAnyH_take (i := 19) (v := ?_) rfl (by kernel_rfl) (by kernel_rfl) (by kernel_rfl) (fun _ _ _ h => h) (Or.inl ⟨by rfl, ?_⟩) (by assumption) ?_
                  rotate_left
                  · (intro w hSw; (try dsimp only at hSw); go_simp) <;> with_reducible rfl
                  try simp only [Act.put, List.setIfInBounds_toArray, List.set_cons_zero, List.set_cons_succ, List.getElem_toArray, List.getElem_cons_succ, List.getElem_cons_zero]
                  refine wpAnyH_ready (rs := [20]) (by kernel_rfl) (by simp) ?_
                  refine AllReadyH.cons rfl (fun K hK => ?_) AllReadyH.nil
                  try dsimp only [List.getElem_toArray, List.getElem_cons_succ, List.getElem_cons_zero]
                  go_simp
                  refine hK.out _ _ ?_ (fun hHeld => ?_)
                  · (try dsimp only); first | assumption | (refine (World.cell?_setCell_other _ _ _ _ (fun e => hjne (congrArg Addr.off e))).trans ?_; assumption) | go_keep
                  clear hK K
                  try simp only [Act.put, List.setIfInBounds_toArray, List.set_cons_zero, List.set_cons_succ, List.getElem_toArray, List.getElem_cons_succ, List.getElem_cons_zero]
                  refine wpAnyH_done (by kernel_rfl) ?_ _
                  have HC := Lib.hid (show ((w7.setCell ⟨w2.heap.size, J, none⟩ (.int .i64 (wrap64 (u + v)))).drew).ownsRow w2.heap.size 2 1 (.slice (some ⟨w2.heap.size, 0, none⟩) N N) N (intsRow (cntIn L d (cntOut L d) (k + 1))) by
                    rw [HS.out, ← HU.out, ← HVv.out, ← intsRow_set]
                    exact (Oq.out.stored J _).1.drew)
                  have hbq : Below w2.heap.size w2 ((w7.setCell ⟨w2.heap.size, J, none⟩ (.int .i64 (wrap64 (u + v)))).drew) := (bq.setCell (Nat.le_refl _) _).drew
                  clear hHeld e1 e2 f1 o1 o2 o3 o4 o5 o6 o7
                  go_wp2
                  go_roundw
                  case rel => exact ⟨k + 1, by omega, by go_num, HC.out, hbq⟩
                  case measure => simp [intOf]; omega
              · have HS := Lib.hid (cntIn_no (L := L) (d := d) (k := k) (ways := cntOut L d) (by simp [hbit]))
                have hb0 := fun n => specBit_any (wr.drewN n) d k (by omega) (by omega)
                simp only [hbit] at hb0
                have HB0 := Lib.hid hb0
                clear hb0
                go_wp2
                go_quiet ((go_at_call 65; exact quiet_l (HB0.out _)))
                go_wp2
                go_roundw
                case rel => exact ⟨k + 1, by omega, by go_num, by rw [HS.out]; exact own_drewN0 Ho.out _, below_drewN hb _⟩
                case measure => simp [intOf]; omega
            · have t0 : decide (0 < v) = false := by simpa using hv0
              have HS := Lib.hid (cntIn_no (L := L) (d := d) (k := k) (ways := cntOut L d) (by rw [← HVv.out, t0]; rfl))
              go_wp2
              go_quiet (fail)
              go_wp2
              go_roundw
              case rel => exact ⟨k + 1, by omega, by go_num, by rw [HS.out]; exact own_drewN0 Ho.out _, below_drewN hb _⟩
              case measure => simp [intOf]; omega
          · have hke : k = L.length := by omega
            subst hke
            go_wp2
            go_roundw
            case rel => exact ⟨d + 1, by omega, by go_num, Ho.out, hb⟩
            case measure => simp [intOf]; omega
      · have hde : d = N := by omega
        obtain ⟨q, hq⟩ : ∃ q, N = q + 1 := ⟨N - 1, by omega⟩
        have e0 := (Ho.out.cellAt q (by omega)).trans (intsRow_at (cntOut L d) q (by omega))
        have x1 : wrap64 ((N : Int) - 1) = (q : Int) := by rw [IntWalk.wrap64_in _ ⟨by omega, by omega⟩]; omega
        have x2 : (N : Int) - 1 = (q : Int) := by omega
        have HQ := Lib.hid (show countF L = (intsAt (cntOut L d) q, 0) by rw [H.out, ← HNe.out, hde, show N - 1 = q by omega])
        have i0' : (0 : Int) ≤ (q : Int) := Int.natCast_nonneg _
        have i1 : (q : Int) < (N : Int) := by omega
        have b5 := hb2.trans (hb.mono hsz2)
        have nlt : ¬ d < N := by omega
        clear hq hde
        go_wp2
        go_ret2
        exact RetIC.ok HQ.out b5

end Go.Proofs.Ytecfkomijaakhaa
