/- DuePlan: what it gives; the walks. Printed by gen_due.py out of the order of promises. -/
import Derived.Test.YtfkindkekjafnaaJobA
import Derived.Test.YtfkindkekjafnaaIns
import Derived.IntWalk
namespace Go.Proofs.Ytfkindkekjafnaa
open Go.RowKit

def dueKey (L : List Job) (i : Nat) : Int := (jobAt L i).due
def dueOrd (L : List Job) : List Int := orderBy (dueKey L) L.length
theorem dueOrd_len (L : List Job) : (dueOrd L).length = L.length := orderBy_len _ _
theorem orderBy_apart (key : Nat → Int) : ∀ n i j, i < n → j < i → intsAt (orderBy key n) j ≠ intsAt (orderBy key n) i := by
  intro n
  induction n with
  | zero => intro i j h; omega
  | succ n ih =>
    intro i j hi hj
    have hle := posOf_le key (orderBy key n) (key n)
    rw [orderBy, insAt_at hle i (by rw [orderBy_len]; omega), insAt_at hle j (by rw [orderBy_len]; omega)]
    rw [orderBy_len] at hle
    generalize posOf key (orderBy key n) (key n) = k at hle ⊢
    have key2 : ∀ a, a < n → intsAt (orderBy key n) a ≠ (n : Int) := by
      intro a ha
      obtain ⟨b, e, hb⟩ := orderBy_mem key n a ha
      rw [e]; omega
    by_cases h1 : i < k
    · rw [if_pos h1, if_pos (by omega)]; exact ih i j (by omega) hj
    · rw [if_neg h1]
      by_cases h2 : i = k
      · rw [if_pos h2, if_pos (by omega)]; exact key2 j (by omega)
      · rw [if_neg h2]
        by_cases h3 : j < k
        · rw [if_pos h3]; exact ih (i - 1) j (by omega) (by omega)
        · rw [if_neg h3]
          by_cases h4 : j = k
          · rw [if_pos h4]; exact (key2 (i - 1) (by omega)).symm
          · rw [if_neg h4]; exact ih (i - 1) (j - 1) (by omega) (by omega)
theorem dueOrd_ok (L : List Job) : planOk L.length (dueOrd L) = true := by
  rw [planOk_iff]
  refine ⟨dueOrd_len L, fun i hi => ?_⟩
  rw [dueOrd_len] at hi
  obtain ⟨b, e, hb⟩ := orderBy_mem (dueKey L) L.length i hi
  have e' : intsAt (dueOrd L) i = b := e
  exact ⟨by rw [e']; omega, by rw [e']; omega, fun j hj => orderBy_apart _ _ i j hi hj⟩
def worstOf (D : List Int) : Int := D.foldl max 0
theorem worst_take (D : List Int) {k : Nat} (h : k < D.length) : worstOf (D.take (k + 1)) = max (worstOf (D.take k)) (intsAt D k) := by
  rw [take_snoc D 0 h, worstOf, List.foldl_append]; rfl
def duePlan (L : List Job) : List Int × Int × Int := if areJobs L = false then ([], 0, 1) else (dueOrd L, worstOf (lateOf L (dueOrd L)), 0)
theorem duePlan_len (L : List Job) : (duePlan L).1.length ≤ 4194304 := by
  unfold duePlan; split
  · simp
  · rename_i h
    have := areJobs_le (L := L) (by simpa using h)
    simp [dueOrd_len]; omega

set_option maxHeartbeats 4000000 in
theorem implDuePlan_any (w : World) (L : List Job) (v : Value) (hv : Sl w 3 v L.length (jobRow L)) (hf : jobFit L) (hn : L.length ≤ 4194304) :
    Calls Try.prog 41 #[v] w (RetSIC w.heap.size 2 1 intsRow (duePlan L) w) := by
  have Hv := Lib.hid hv
  have Hf := Lib.hid hf
  clear hf
  cases h1 : areJobs L
  · have H := Lib.hid (show duePlan L = ([], 0, 1) by simp [duePlan, h1])
    clear hv
    go_enter Try.func41, Try.ntmps41
    go_wp2_with fail
    refine (implAreJobs_any w L v Hv.out Hf.out hn).mono ?_
    rintro e w2 ⟨rfl, hb2⟩
    rw [h1]
    go_wp2
    go_ret3
    exact RetSIC.err H.out rfl hb2
  · have h41 := areJobs_le h1
    have H := Lib.hid (show duePlan L = (dueOrd L, worstOf (lateOf L (dueOrd L)), 0) by simp [duePlan, h1])
    obtain ⟨j0, hj, hy0, hy1, hy2⟩ := info_parts Try.info_ints
    obtain ⟨A, c, rfl, hl, hc, hr⟩ := hv
    have Hr := Lib.hid hr
    clear hr hl hc
    go_enter Try.func41, Try.ntmps41
    go_wp2_with fail
    refine (implAreJobs_any w L _ Hv.out Hf.out hn).mono ?_
    rintro e w2 ⟨rfl, hb2⟩
    rw [h1]
    have Hr2 := Lib.hid (Hr.out.below' hb2)
    have hs2 := hb2.size
    clear Hr
    go_wp2
    go_loopw [5, 17] (fun s i wr => ∃ (q : Nat) (acc : List Int) (Ao : Option Addr) (co : Nat), q ≤ L.length ∧ i = .int .i64 q ∧ s = .slice Ao q co ∧ acc = orderBy (dueKey L) q ∧ wr.ownsRow w2.heap.size 2 1 (.slice Ao q co) q (intsRow acc) ∧ Below w2.heap.size w2 wr) (fun _ i _ => L.length - (intOf i).toNat)
    case atStart => exact ⟨0, [], none, 0, Nat.zero_le _, rfl, rfl, rfl, World.ownsRow_nil _ _ _ _, Below.refl _ _⟩
    case round =>
      obtain ⟨q, acc, Ao, co, hq, rfl, rfl, hacc, ho, hb⟩ := hrel
      have Hacc := Lib.hid hacc
      have Ho := Lib.hid ho
      have hsz := hb.size
      clear hacc ho
      by_cases hlt : q < L.length
      · obtain ⟨g, o, rfl, hg, c0, c1, c2⟩ := (Hr2.out.below hb (Nat.le_refl _)).job hlt
        have hd := areJobs_at h1 hlt
        obtain ⟨wo, rfl⟩ : ∃ wo : World, wo = wr := ⟨_, rfl⟩
        go_wp2
        obtain ⟨wb, hwb⟩ : ∃ wb, wb = wo.alloc (.cells #[.string (jobAt L q).name, .int .i64 (jobAt L q).min, .int .i64 (jobAt L q).due] 34) := ⟨_, rfl⟩
        have bb : Below w2.heap.size w2 wb := by rw [hwb]; exact hb.alloc hsz _
        have zb : wo.heap.size < wb.heap.size := by rw [hwb]; simp
        have e1 : wb.cell? ⟨wo.heap.size, 2, none⟩ = some (.int .i64 (jobAt L q).due) := by rw [hwb]; go_simp
        have Ob := Lib.hid (show wb.ownsRow w2.heap.size 2 1 (.slice Ao q co) q (intsRow acc) by rw [hwb]; exact Ho.out.alloc _)
        have hzb := bb.size
        have hal : acc.length = q := by rw [Hacc.out, orderBy_len]
        clear c0 c1 c2
        rw [← hwb]
        clear hwb
        go_loopw [8] (fun kv wr => ∃ (k m : Nat), k ≤ q ∧ kv = .int .i64 k ∧ (∀ j, k ≤ j → j < q → dueKey L q < dueKey L (intsAt acc j).toNat) ∧ wr = wb.drewN m) (fun kv _ => (intOf kv).toNat)
        case atStart => exact ⟨q, 0, Nat.le_refl _, rfl, fun j h1 h2 => absurd h2 (by omega), rfl⟩
        case round =>
          obtain ⟨k, m, hk, rfl, hall, rfl⟩ := hrel
          have Hall := Lib.hid hall
          clear hall
          by_cases h0 : 0 < k
          · skip
            obtain ⟨b, hbe, hbq⟩ := orderBy_mem (dueKey L) q (k - 1) (by omega)
            rw [← Hacc.out] at hbe
            obtain ⟨g9, cc, hv9, _, hg9lt⟩ := own_form Ob.out (by omega)
            injection hv9 with hA9 hn9 hc9'
            subst hA9
            clear hn9 hc9' cc
            obtain ⟨_, hl9, hc9⟩ := own_caps Ob.out
            unfold maxLen at hc9
            have d0 := (Ob.out.cellAt (k - 1) (by omega)).trans (intsRow_at acc (k - 1) (by omega))
            rw [hbe] at d0
            obtain ⟨g', o', hA, hg', d1, d2, d3⟩ := (Hr2.out.below bb (Nat.le_refl _)).job (k := b) (by omega)
            injection hA with hA
            injection hA with hA1 hA2
            subst hA1
            subst hA2
            clear d1 d2
            have Hbe := Lib.hid hbe
            clear hbe
            have t0 : decide ((0 : Int) < (k : Int)) = true := by simp; omega
            have t1 : decide (0 < k) = true := by simp; omega
            have i1 : (1 : Int) ≤ (k : Int) := by omega
            have i2 : (k : Int) - 1 < (q : Int) := by omega
            have i3 : IntKind.i64.wrap ((k : Int) - 1) = (k : Int) - 1 := IntWalk.i64_in _ (by omega)
            have i4 : ((k : Int) - 1).toNat = k - 1 := by omega
            have i5 : (0 : Int) ≤ (b : Int) := Int.natCast_nonneg _
            have i6 : (b : Int) < (L.length : Int) := by omega
            by_cases hle : (jobAt L b).due ≤ (jobAt L q).due
            · have t2 : decide ((jobAt L q).due < (jobAt L b).due) = false := by simp; omega
              have Hle := Lib.hid hle
              clear hle
              go_wp2
              go_quiet (fail)
              clear i3 i4
              have Hpos := Lib.hid (show posOf (dueKey L) acc (dueKey L q) = k by rw [Hacc.out]; exact posOf_down hk (fun j h1 h2 => by rw [← Hacc.out]; exact Int.not_le.2 (Hall.out j h1 h2)) (.inr (by rw [← Hacc.out, Hbe.out]; simp only [Int.toNat_natCast]; exact Hle.out)))
              have hk0 : (0 : Int) ≤ (k : Int) := Int.natCast_nonneg _
              go_wp2_with (at_builtin; refine wpList_append_sl _ rfl (.tmp 42) (.tmp 43) _ rfl w2.heap.size 2 j0 _ 1 8 Try.underlying38 hj hy0 hy1 hy2 rfl (by omega) _ q (intsRow acc) rfl ((own_drewN Ob.out _).alloc _) (some ⟨wb.heap.size, 0, none⟩) 1 1 [.int .i64 0] rfl (Rd.of_block (cs := #[.int .i64 0]) (heap_alloc_new _ _) rfl) (by intro x hx; simp at hx; subst hx; rfl) (by unfold maxLen; omega) (by omega) (by simp <;> omega) ?_; intro A8 c8 w8 ho8 hg8 hor8)
              have b8 : Below w2.heap.size w2 w8 := ((below_drewN bb _).alloc (by simp <;> omega) _).grown hg8 (by simp <;> omega) (fun p hp => (World.ownsRow.lt Ob.out p hp).1)
              have O8 := Lib.hid ho8
              clear ho8 hg8 hor8
              obtain ⟨g8, cc, hv8, _, hg8lt⟩ := own_form O8.out (by omega)
              injection hv8 with hA8 hn8 hc8'
              subst hA8
              clear hn8 hc8' cc
              obtain ⟨cur, hcur, hbg, hnc, hcm, hcl, hct, hcopy⟩ := own_cur O8.out
              unfold maxLen at hcm
              have Hcur := Lib.hid hcur
              have Hct := Lib.hid hct
              have Hcopy := Lib.hid hcopy
              have Hcl := Lib.hid hcl
              clear hcur hct hcopy hcl
              have x1 := IntWalk.i64_in ((k : Int) + 1) (by omega)
              have hk1 : (0 : Int) ≤ (k : Int) + 1 := by omega
              have hk2 : (k : Int) + 1 ≤ (q : Int) + 1 := by omega
              have hk3 : (k : Int) ≤ (q : Int) + 1 := by omega
              by_cases hcap : c8 = k + 1
              · have HC := Lib.hid hcap
                subst hcap
                refine wp_region_held_drew (S := (fun _ => True)) (by kernel_rfl) ?_ (fun hHeld => ?_)
                · (try dsimp only); first | done | trivial
                refine wpAnyH_take (i := 0) (v := ?_) rfl (by kernel_rfl) (by kernel_rfl) (by kernel_rfl) (fun _ _ _ h => h) (Or.inl ⟨by rfl, ?_⟩) (by assumption) ?_
                rotate_left
                · (intro w2 hSw; (try dsimp only at hSw); go_simp) <;> with_reducible rfl
                try simp only [Act.put, List.setIfInBounds_toArray, List.set_cons_zero, List.set_cons_succ, List.getElem_toArray, List.getElem_cons_succ, List.getElem_cons_zero]
                refine wpAnyH_take (i := 1) (v := ?_) rfl (by kernel_rfl) (by kernel_rfl) (by kernel_rfl) (fun _ _ _ h => h) (Or.inl ⟨by rfl, ?_⟩) (by assumption) ?_
                rotate_left
                · (intro w2 hSw; (try dsimp only at hSw); go_simp) <;> with_reducible rfl
                try simp only [Act.put, List.setIfInBounds_toArray, List.set_cons_zero, List.set_cons_succ, List.getElem_toArray, List.getElem_cons_succ, List.getElem_cons_zero]
                refine wpAnyH_take (i := 2) (v := ?_) rfl (by kernel_rfl) (by kernel_rfl) (by kernel_rfl) (fun _ _ _ h => h) (Or.inl ⟨by rfl, ?_⟩) (by assumption) ?_
                rotate_left
                · (intro w2 hSw; (try dsimp only at hSw); go_simp) <;> with_reducible rfl
                try simp only [Act.put, List.setIfInBounds_toArray, List.set_cons_zero, List.set_cons_succ, List.getElem_toArray, List.getElem_cons_succ, List.getElem_cons_zero]
                refine wpAnyH_take (i := 3) (v := ?_) rfl (by kernel_rfl) (by kernel_rfl) (by kernel_rfl) (fun _ _ _ h => h) (Or.inl ⟨by rfl, ?_⟩) (by assumption) ?_
                rotate_left
                · (intro w2 hSw; (try dsimp only at hSw); go_simp) <;> with_reducible rfl
                try simp only [Act.put, List.setIfInBounds_toArray, List.set_cons_zero, List.set_cons_succ, List.getElem_toArray, List.getElem_cons_succ, List.getElem_cons_zero]
                refine wpAnyH_take (i := 4) (v := ?_) rfl (by kernel_rfl) (by kernel_rfl) (by kernel_rfl) (fun _ _ _ h => h) (Or.inl ⟨by rfl, ?_⟩) (by assumption) ?_
                rotate_left
                · (intro w2 hSw; (try dsimp only at hSw); go_simp) <;> with_reducible rfl
                try simp only [Act.put, List.setIfInBounds_toArray, List.set_cons_zero, List.set_cons_succ, List.getElem_toArray, List.getElem_cons_succ, List.getElem_cons_zero]
                refine wpAnyH_take (i := 5) (v := ?_) rfl (by kernel_rfl) (by kernel_rfl) (by kernel_rfl) (fun _ _ _ h => h) (Or.inl ⟨by rfl, ?_⟩) (by assumption) ?_
                rotate_left
                · (intro w2 hSw; (try dsimp only at hSw); go_simp) <;> with_reducible rfl
                try simp only [Act.put, List.setIfInBounds_toArray, List.set_cons_zero, List.set_cons_succ, List.getElem_toArray, List.getElem_cons_succ, List.getElem_cons_zero]
                refine wpAnyH_take (i := 6) (v := ?_) rfl (by kernel_rfl) (by kernel_rfl) (by kernel_rfl) (fun _ _ _ h => h) (Or.inl ⟨by rfl, ?_⟩) (by assumption) ?_
                rotate_left
                · (intro w2 hSw; (try dsimp only at hSw); go_simp) <;> with_reducible rfl
                try simp only [Act.put, List.setIfInBounds_toArray, List.set_cons_zero, List.set_cons_succ, List.getElem_toArray, List.getElem_cons_succ, List.getElem_cons_zero]
                refine wpAnyH_ready (rs := [7]) (by kernel_rfl) (by simp) ?_
                refine AllReadyH.cons rfl (fun K hK => ?_) AllReadyH.nil
                (refine step_shift (by rfl) (.tmp 48) (.tmp 51) _ _ (by rfl) 2 Try.underlying38 (by kernel_rfl) _ _ _ _ _ _ (by rfl) (by rfl) (O8.out.drew) k (by omega) (by omega) (by omega) (fun h => by first | rfl | (exfalso; omega)) (fun h => by first | rfl | exact if_neg (by omega) | (exfalso; omega)) (by intro x hx; rw [show intsRow acc ++ [Value.int IntKind.i64 0] = intsRow (acc ++ [0]) by rw [intsRow_append]; rfl] at hx; exact intsRow_one _ x hx) ?_; intro w7 ho7 hb7)
                refine hK.out _ _ ?_ (fun hHeld => ?_)
                · (try dsimp only); first | done | trivial
                clear hK K
                try simp only [Act.put, List.setIfInBounds_toArray, List.set_cons_zero, List.set_cons_succ, List.getElem_toArray, List.getElem_cons_succ, List.getElem_cons_zero]
                refine wpAnyH_done (by kernel_rfl) ?_ _
                have O7 := Lib.hid ho7
                have b7 : Below w2.heap.size w2 w7 := (b8.drew).trans hb7
                clear ho7
                obtain ⟨x7, d7⟩ := own_cell O7.out (j := k) (by omega)
                have f7 := O7.out.frozenAt k
                have hkq : (k : Int) < (q : Int) + 1 := by omega
                go_wp2
                go_roundw
                case rel =>
                  refine ⟨q + 1, insAt acc k q, _, _, by omega, by go_num, rfl, by rw [orderBy, ← Hacc.out, Hpos.out], ?_, b7.setCell (World.ownsRow.lt O7.out g8 rfl).1 _⟩
                  have h := (O7.out.stored k (.int .i64 q)).1
                  rw [show intsRow acc ++ [Value.int IntKind.i64 0] = intsRow (acc ++ [0]) by rw [intsRow_append]; rfl, show q + 1 - (k + 1) = acc.length - k by omega, splice_shift acc k (by omega)] at h
                  exact h
                case measure => simp [intOf]; omega
              · skip
                refine wp_region_held_drew (S := (fun _ => True)) (by kernel_rfl) ?_ (fun hHeld => ?_)
                · (try dsimp only); first | done | trivial
                refine wpAnyH_take (i := 0) (v := ?_) rfl (by kernel_rfl) (by kernel_rfl) (by kernel_rfl) (fun _ _ _ h => h) (Or.inl ⟨by rfl, ?_⟩) (by assumption) ?_
                rotate_left
                · (intro w2 hSw; (try dsimp only at hSw); go_simp) <;> with_reducible rfl
                try simp only [Act.put, List.setIfInBounds_toArray, List.set_cons_zero, List.set_cons_succ, List.getElem_toArray, List.getElem_cons_succ, List.getElem_cons_zero]
                refine wpAnyH_take (i := 1) (v := ?_) rfl (by kernel_rfl) (by kernel_rfl) (by kernel_rfl) (fun _ _ _ h => h) (Or.inl ⟨by rfl, ?_⟩) (by assumption) ?_
                rotate_left
                · (intro w2 hSw; (try dsimp only at hSw); go_simp) <;> with_reducible rfl
                try simp only [Act.put, List.setIfInBounds_toArray, List.set_cons_zero, List.set_cons_succ, List.getElem_toArray, List.getElem_cons_succ, List.getElem_cons_zero]
                refine wpAnyH_take (i := 2) (v := ?_) rfl (by kernel_rfl) (by kernel_rfl) (by kernel_rfl) (fun _ _ _ h => h) (Or.inl ⟨by rfl, ?_⟩) (by assumption) ?_
                rotate_left
                · (intro w2 hSw; (try dsimp only at hSw); go_simp) <;> with_reducible rfl
                try simp only [Act.put, List.setIfInBounds_toArray, List.set_cons_zero, List.set_cons_succ, List.getElem_toArray, List.getElem_cons_succ, List.getElem_cons_zero]
                refine wpAnyH_take (i := 3) (v := ?_) rfl (by kernel_rfl) (by kernel_rfl) (by kernel_rfl) (fun _ _ _ h => h) (Or.inl ⟨by rfl, ?_⟩) (by assumption) ?_
                rotate_left
                · (intro w2 hSw; (try dsimp only at hSw); go_simp) <;> with_reducible rfl
                try simp only [Act.put, List.setIfInBounds_toArray, List.set_cons_zero, List.set_cons_succ, List.getElem_toArray, List.getElem_cons_succ, List.getElem_cons_zero]
                refine wpAnyH_take (i := 4) (v := ?_) rfl (by kernel_rfl) (by kernel_rfl) (by kernel_rfl) (fun _ _ _ h => h) (Or.inl ⟨by rfl, ?_⟩) (by assumption) ?_
                rotate_left
                · (intro w2 hSw; (try dsimp only at hSw); go_simp) <;> with_reducible rfl
                try simp only [Act.put, List.setIfInBounds_toArray, List.set_cons_zero, List.set_cons_succ, List.getElem_toArray, List.getElem_cons_succ, List.getElem_cons_zero]
                refine wpAnyH_take (i := 5) (v := ?_) rfl (by kernel_rfl) (by kernel_rfl) (by kernel_rfl) (fun _ _ _ h => h) (Or.inl ⟨by rfl, ?_⟩) (by assumption) ?_
                rotate_left
                · (intro w2 hSw; (try dsimp only at hSw); go_simp) <;> with_reducible rfl
                try simp only [Act.put, List.setIfInBounds_toArray, List.set_cons_zero, List.set_cons_succ, List.getElem_toArray, List.getElem_cons_succ, List.getElem_cons_zero]
                refine wpAnyH_take (i := 6) (v := ?_) rfl (by kernel_rfl) (by kernel_rfl) (by kernel_rfl) (fun _ _ _ h => h) (Or.inl ⟨by rfl, ?_⟩) (by assumption) ?_
                rotate_left
                · (intro w2 hSw; (try dsimp only at hSw); go_simp) <;> with_reducible rfl
                try simp only [Act.put, List.setIfInBounds_toArray, List.set_cons_zero, List.set_cons_succ, List.getElem_toArray, List.getElem_cons_succ, List.getElem_cons_zero]
                refine wpAnyH_ready (rs := [7]) (by kernel_rfl) (by simp) ?_
                refine AllReadyH.cons rfl (fun K hK => ?_) AllReadyH.nil
                (refine step_shift (by rfl) (.tmp 48) (.tmp 51) _ _ (by rfl) 2 Try.underlying38 (by kernel_rfl) _ _ _ _ _ _ (by rfl) (by rfl) (O8.out.drew) k (by omega) (by omega) (by omega) (fun h => by first | rfl | (exfalso; omega)) (fun h => by first | rfl | exact if_neg (by omega) | (exfalso; omega)) (by intro x hx; rw [show intsRow acc ++ [Value.int IntKind.i64 0] = intsRow (acc ++ [0]) by rw [intsRow_append]; rfl] at hx; exact intsRow_one _ x hx) ?_; intro w7 ho7 hb7)
                refine hK.out _ _ ?_ (fun hHeld => ?_)
                · (try dsimp only); first | done | trivial
                clear hK K
                try simp only [Act.put, List.setIfInBounds_toArray, List.set_cons_zero, List.set_cons_succ, List.getElem_toArray, List.getElem_cons_succ, List.getElem_cons_zero]
                refine wpAnyH_done (by kernel_rfl) ?_ _
                have O7 := Lib.hid ho7
                have b7 : Below w2.heap.size w2 w7 := (b8.drew).trans hb7
                clear ho7
                obtain ⟨x7, d7⟩ := own_cell O7.out (j := k) (by omega)
                have f7 := O7.out.frozenAt k
                have hkq : (k : Int) < (q : Int) + 1 := by omega
                go_wp2
                go_roundw
                case rel =>
                  refine ⟨q + 1, insAt acc k q, _, _, by omega, by go_num, rfl, by rw [orderBy, ← Hacc.out, Hpos.out], ?_, b7.setCell (World.ownsRow.lt O7.out g8 rfl).1 _⟩
                  have h := (O7.out.stored k (.int .i64 q)).1
                  rw [show intsRow acc ++ [Value.int IntKind.i64 0] = intsRow (acc ++ [0]) by rw [intsRow_append]; rfl, show q + 1 - (k + 1) = acc.length - k by omega, splice_shift acc k (by omega)] at h
                  exact h
                case measure => simp [intOf]; omega
            · have t2 : decide ((jobAt L q).due < (jobAt L b).due) = true := by simp; omega
              have Hle := Lib.hid (show ¬ (jobAt L b).due ≤ (jobAt L q).due from hle)
              clear hle
              go_wp2
              go_quiet (fail)
              go_wp2
              clear i3
              go_roundw
              case rel => exact ⟨k - 1, m + _, by omega, by go_num, fun j h1 h2 => by
                by_cases e : j = k - 1
                · subst e; rw [Hbe.out]; exact (by have := Hle.out; unfold dueKey; simp only [Int.toNat_natCast]; omega)
                · exact Hall.out j (by omega) h2, rfl⟩
              case measure => simp [intOf]; omega
          · have hk00 : k = 0 := by omega
            have t0 : decide ((0 : Int) < (k : Int)) = false := by simp; omega
            have t1 : decide (0 < k) = false := by simp; omega
            have HK := Lib.hid hk00
            clear hk00
            go_wp2
            go_quiet (fail)
            have Hpos := Lib.hid (show posOf (dueKey L) acc (dueKey L q) = k by rw [Hacc.out]; exact posOf_down hk (fun j h1 h2 => by rw [← Hacc.out]; exact Int.not_le.2 (Hall.out j h1 h2)) (.inl HK.out))
            have hk0 : (0 : Int) ≤ (k : Int) := Int.natCast_nonneg _
            go_wp2_with (at_builtin; refine wpList_append_sl _ rfl (.tmp 42) (.tmp 43) _ rfl w2.heap.size 2 j0 _ 1 8 Try.underlying38 hj hy0 hy1 hy2 rfl (by omega) _ q (intsRow acc) rfl ((own_drewN Ob.out _).alloc _) (some ⟨wb.heap.size, 0, none⟩) 1 1 [.int .i64 0] rfl (Rd.of_block (cs := #[.int .i64 0]) (heap_alloc_new _ _) rfl) (by intro x hx; simp at hx; subst hx; rfl) (by unfold maxLen; omega) (by omega) (by simp <;> omega) ?_; intro A8 c8 w8 ho8 hg8 hor8)
            have b8 : Below w2.heap.size w2 w8 := ((below_drewN bb _).alloc (by simp <;> omega) _).grown hg8 (by simp <;> omega) (fun p hp => (World.ownsRow.lt Ob.out p hp).1)
            have O8 := Lib.hid ho8
            clear ho8 hg8 hor8
            obtain ⟨g8, cc, hv8, _, hg8lt⟩ := own_form O8.out (by omega)
            injection hv8 with hA8 hn8 hc8'
            subst hA8
            clear hn8 hc8' cc
            obtain ⟨cur, hcur, hbg, hnc, hcm, hcl, hct, hcopy⟩ := own_cur O8.out
            unfold maxLen at hcm
            have Hcur := Lib.hid hcur
            have Hct := Lib.hid hct
            have Hcopy := Lib.hid hcopy
            have Hcl := Lib.hid hcl
            clear hcur hct hcopy hcl
            have x1 := IntWalk.i64_in ((k : Int) + 1) (by omega)
            have hk1 : (0 : Int) ≤ (k : Int) + 1 := by omega
            have hk2 : (k : Int) + 1 ≤ (q : Int) + 1 := by omega
            have hk3 : (k : Int) ≤ (q : Int) + 1 := by omega
            by_cases hcap : c8 = k + 1
            · have HC := Lib.hid hcap
              subst hcap
              refine wp_region_held_drew (S := (fun _ => True)) (by kernel_rfl) ?_ (fun hHeld => ?_)
              · (try dsimp only); first | done | trivial
              refine wpAnyH_take (i := 0) (v := ?_) rfl (by kernel_rfl) (by kernel_rfl) (by kernel_rfl) (fun _ _ _ h => h) (Or.inl ⟨by rfl, ?_⟩) (by assumption) ?_
              rotate_left
              · (intro w2 hSw; (try dsimp only at hSw); go_simp) <;> with_reducible rfl
              try simp only [Act.put, List.setIfInBounds_toArray, List.set_cons_zero, List.set_cons_succ, List.getElem_toArray, List.getElem_cons_succ, List.getElem_cons_zero]
              refine wpAnyH_take (i := 1) (v := ?_) rfl (by kernel_rfl) (by kernel_rfl) (by kernel_rfl) (fun _ _ _ h => h) (Or.inl ⟨by rfl, ?_⟩) (by assumption) ?_
              rotate_left
              · (intro w2 hSw; (try dsimp only at hSw); go_simp) <;> with_reducible rfl
              try simp only [Act.put, List.setIfInBounds_toArray, List.set_cons_zero, List.set_cons_succ, List.getElem_toArray, List.getElem_cons_succ, List.getElem_cons_zero]
              refine wpAnyH_take (i := 2) (v := ?_) rfl (by kernel_rfl) (by kernel_rfl) (by kernel_rfl) (fun _ _ _ h => h) (Or.inl ⟨by rfl, ?_⟩) (by assumption) ?_
              rotate_left
              · (intro w2 hSw; (try dsimp only at hSw); go_simp) <;> with_reducible rfl
              try simp only [Act.put, List.setIfInBounds_toArray, List.set_cons_zero, List.set_cons_succ, List.getElem_toArray, List.getElem_cons_succ, List.getElem_cons_zero]
              refine wpAnyH_take (i := 3) (v := ?_) rfl (by kernel_rfl) (by kernel_rfl) (by kernel_rfl) (fun _ _ _ h => h) (Or.inl ⟨by rfl, ?_⟩) (by assumption) ?_
              rotate_left
              · (intro w2 hSw; (try dsimp only at hSw); go_simp) <;> with_reducible rfl
              try simp only [Act.put, List.setIfInBounds_toArray, List.set_cons_zero, List.set_cons_succ, List.getElem_toArray, List.getElem_cons_succ, List.getElem_cons_zero]
              refine wpAnyH_take (i := 4) (v := ?_) rfl (by kernel_rfl) (by kernel_rfl) (by kernel_rfl) (fun _ _ _ h => h) (Or.inl ⟨by rfl, ?_⟩) (by assumption) ?_
              rotate_left
              · (intro w2 hSw; (try dsimp only at hSw); go_simp) <;> with_reducible rfl
              try simp only [Act.put, List.setIfInBounds_toArray, List.set_cons_zero, List.set_cons_succ, List.getElem_toArray, List.getElem_cons_succ, List.getElem_cons_zero]
              refine wpAnyH_take (i := 5) (v := ?_) rfl (by kernel_rfl) (by kernel_rfl) (by kernel_rfl) (fun _ _ _ h => h) (Or.inl ⟨by rfl, ?_⟩) (by assumption) ?_
              rotate_left
              · (intro w2 hSw; (try dsimp only at hSw); go_simp) <;> with_reducible rfl
              try simp only [Act.put, List.setIfInBounds_toArray, List.set_cons_zero, List.set_cons_succ, List.getElem_toArray, List.getElem_cons_succ, List.getElem_cons_zero]
              refine wpAnyH_take (i := 6) (v := ?_) rfl (by kernel_rfl) (by kernel_rfl) (by kernel_rfl) (fun _ _ _ h => h) (Or.inl ⟨by rfl, ?_⟩) (by assumption) ?_
              rotate_left
              · (intro w2 hSw; (try dsimp only at hSw); go_simp) <;> with_reducible rfl
              try simp only [Act.put, List.setIfInBounds_toArray, List.set_cons_zero, List.set_cons_succ, List.getElem_toArray, List.getElem_cons_succ, List.getElem_cons_zero]
              refine wpAnyH_ready (rs := [7]) (by kernel_rfl) (by simp) ?_
              refine AllReadyH.cons rfl (fun K hK => ?_) AllReadyH.nil
              (refine step_shift (by rfl) (.tmp 48) (.tmp 51) _ _ (by rfl) 2 Try.underlying38 (by kernel_rfl) _ _ _ _ _ _ (by rfl) (by rfl) (O8.out.drew) k (by omega) (by omega) (by omega) (fun h => by first | rfl | (exfalso; omega)) (fun h => by first | rfl | exact if_neg (by omega) | (exfalso; omega)) (by intro x hx; rw [show intsRow acc ++ [Value.int IntKind.i64 0] = intsRow (acc ++ [0]) by rw [intsRow_append]; rfl] at hx; exact intsRow_one _ x hx) ?_; intro w7 ho7 hb7)
              refine hK.out _ _ ?_ (fun hHeld => ?_)
              · (try dsimp only); first | done | trivial
              clear hK K
              try simp only [Act.put, List.setIfInBounds_toArray, List.set_cons_zero, List.set_cons_succ, List.getElem_toArray, List.getElem_cons_succ, List.getElem_cons_zero]
              refine wpAnyH_done (by kernel_rfl) ?_ _
              have O7 := Lib.hid ho7
              have b7 : Below w2.heap.size w2 w7 := (b8.drew).trans hb7
              clear ho7
              obtain ⟨x7, d7⟩ := own_cell O7.out (j := k) (by omega)
              have f7 := O7.out.frozenAt k
              have hkq : (k : Int) < (q : Int) + 1 := by omega
              go_wp2
              go_roundw
              case rel =>
                refine ⟨q + 1, insAt acc k q, _, _, by omega, by go_num, rfl, by rw [orderBy, ← Hacc.out, Hpos.out], ?_, b7.setCell (World.ownsRow.lt O7.out g8 rfl).1 _⟩
                have h := (O7.out.stored k (.int .i64 q)).1
                rw [show intsRow acc ++ [Value.int IntKind.i64 0] = intsRow (acc ++ [0]) by rw [intsRow_append]; rfl, show q + 1 - (k + 1) = acc.length - k by omega, splice_shift acc k (by omega)] at h
                exact h
              case measure => simp [intOf]; omega
            · skip
              refine wp_region_held_drew (S := (fun _ => True)) (by kernel_rfl) ?_ (fun hHeld => ?_)
              · (try dsimp only); first | done | trivial
              refine wpAnyH_take (i := 0) (v := ?_) rfl (by kernel_rfl) (by kernel_rfl) (by kernel_rfl) (fun _ _ _ h => h) (Or.inl ⟨by rfl, ?_⟩) (by assumption) ?_
              rotate_left
              · (intro w2 hSw; (try dsimp only at hSw); go_simp) <;> with_reducible rfl
              try simp only [Act.put, List.setIfInBounds_toArray, List.set_cons_zero, List.set_cons_succ, List.getElem_toArray, List.getElem_cons_succ, List.getElem_cons_zero]
              refine wpAnyH_take (i := 1) (v := ?_) rfl (by kernel_rfl) (by kernel_rfl) (by kernel_rfl) (fun _ _ _ h => h) (Or.inl ⟨by rfl, ?_⟩) (by assumption) ?_
              rotate_left
              · (intro w2 hSw; (try dsimp only at hSw); go_simp) <;> with_reducible rfl
              try simp only [Act.put, List.setIfInBounds_toArray, List.set_cons_zero, List.set_cons_succ, List.getElem_toArray, List.getElem_cons_succ, List.getElem_cons_zero]
              refine wpAnyH_take (i := 2) (v := ?_) rfl (by kernel_rfl) (by kernel_rfl) (by kernel_rfl) (fun _ _ _ h => h) (Or.inl ⟨by rfl, ?_⟩) (by assumption) ?_
              rotate_left
              · (intro w2 hSw; (try dsimp only at hSw); go_simp) <;> with_reducible rfl
              try simp only [Act.put, List.setIfInBounds_toArray, List.set_cons_zero, List.set_cons_succ, List.getElem_toArray, List.getElem_cons_succ, List.getElem_cons_zero]
              refine wpAnyH_take (i := 3) (v := ?_) rfl (by kernel_rfl) (by kernel_rfl) (by kernel_rfl) (fun _ _ _ h => h) (Or.inl ⟨by rfl, ?_⟩) (by assumption) ?_
              rotate_left
              · (intro w2 hSw; (try dsimp only at hSw); go_simp) <;> with_reducible rfl
              try simp only [Act.put, List.setIfInBounds_toArray, List.set_cons_zero, List.set_cons_succ, List.getElem_toArray, List.getElem_cons_succ, List.getElem_cons_zero]
              refine wpAnyH_take (i := 4) (v := ?_) rfl (by kernel_rfl) (by kernel_rfl) (by kernel_rfl) (fun _ _ _ h => h) (Or.inl ⟨by rfl, ?_⟩) (by assumption) ?_
              rotate_left
              · (intro w2 hSw; (try dsimp only at hSw); go_simp) <;> with_reducible rfl
              try simp only [Act.put, List.setIfInBounds_toArray, List.set_cons_zero, List.set_cons_succ, List.getElem_toArray, List.getElem_cons_succ, List.getElem_cons_zero]
              refine wpAnyH_take (i := 5) (v := ?_) rfl (by kernel_rfl) (by kernel_rfl) (by kernel_rfl) (fun _ _ _ h => h) (Or.inl ⟨by rfl, ?_⟩) (by assumption) ?_
              rotate_left
              · (intro w2 hSw; (try dsimp only at hSw); go_simp) <;> with_reducible rfl
              try simp only [Act.put, List.setIfInBounds_toArray, List.set_cons_zero, List.set_cons_succ, List.getElem_toArray, List.getElem_cons_succ, List.getElem_cons_zero]
              refine wpAnyH_take (i := 6) (v := ?_) rfl (by kernel_rfl) (by kernel_rfl) (by kernel_rfl) (fun _ _ _ h => h) (Or.inl ⟨by rfl, ?_⟩) (by assumption) ?_
              rotate_left
              · (intro w2 hSw; (try dsimp only at hSw); go_simp) <;> with_reducible rfl
              try simp only [Act.put, List.setIfInBounds_toArray, List.set_cons_zero, List.set_cons_succ, List.getElem_toArray, List.getElem_cons_succ, List.getElem_cons_zero]
              refine wpAnyH_ready (rs := [7]) (by kernel_rfl) (by simp) ?_
              refine AllReadyH.cons rfl (fun K hK => ?_) AllReadyH.nil
              (refine step_shift (by rfl) (.tmp 48) (.tmp 51) _ _ (by rfl) 2 Try.underlying38 (by kernel_rfl) _ _ _ _ _ _ (by rfl) (by rfl) (O8.out.drew) k (by omega) (by omega) (by omega) (fun h => by first | rfl | (exfalso; omega)) (fun h => by first | rfl | exact if_neg (by omega) | (exfalso; omega)) (by intro x hx; rw [show intsRow acc ++ [Value.int IntKind.i64 0] = intsRow (acc ++ [0]) by rw [intsRow_append]; rfl] at hx; exact intsRow_one _ x hx) ?_; intro w7 ho7 hb7)
              refine hK.out _ _ ?_ (fun hHeld => ?_)
              · (try dsimp only); first | done | trivial
              clear hK K
              try simp only [Act.put, List.setIfInBounds_toArray, List.set_cons_zero, List.set_cons_succ, List.getElem_toArray, List.getElem_cons_succ, List.getElem_cons_zero]
              refine wpAnyH_done (by kernel_rfl) ?_ _
              have O7 := Lib.hid ho7
              have b7 : Below w2.heap.size w2 w7 := (b8.drew).trans hb7
              clear ho7
              obtain ⟨x7, d7⟩ := own_cell O7.out (j := k) (by omega)
              have f7 := O7.out.frozenAt k
              have hkq : (k : Int) < (q : Int) + 1 := by omega
              go_wp2
              go_roundw
              case rel =>
                refine ⟨q + 1, insAt acc k q, _, _, by omega, by go_num, rfl, by rw [orderBy, ← Hacc.out, Hpos.out], ?_, b7.setCell (World.ownsRow.lt O7.out g8 rfl).1 _⟩
                have h := (O7.out.stored k (.int .i64 q)).1
                rw [show intsRow acc ++ [Value.int IntKind.i64 0] = intsRow (acc ++ [0]) by rw [intsRow_append]; rfl, show q + 1 - (k + 1) = acc.length - k by omega, splice_shift acc k (by omega)] at h
                exact h
              case measure => simp [intOf]; omega
      · have hqL : q = L.length := by omega
        subst hqL
        have hD : acc = dueOrd L := Hacc.out
        have Os := Lib.hid (show wr.ownsRow w2.heap.size 2 1 (.slice Ao L.length co) (dueOrd L).length (intsRow (dueOrd L)) by rw [dueOrd_len, ← hD]; exact Ho.out)
        clear hD
        go_wp2_with fail
        refine (implLate_any wr L _ (dueOrd L) _ (Hv.out.below (hb2.trans (hb.mono hs2))) (by have := Sl.of_own Os.out; rw [dueOrd_len] at this; rw [dueOrd_len]; exact this) h1 (dueOrd_ok L)).mono ?_
        rintro e w4 ⟨y4, rfl, ho4, hb4⟩
        obtain ⟨A4, c4, rfl, _, _⟩ := own_slice ho4
        have O4 := Lib.hid ho4
        have b4 : Below w.heap.size w w4 := (hb2.trans (hb.mono hs2)).trans (hb4.mono (Nat.le_trans hs2 hb.size))
        have hDl : (lateOf L (dueOrd L)).length = L.length := lateOf_len _ _
        clear ho4
        go_wp2
        go_loop [9, 62] (fun z i => ∃ (k : Nat) (m : Int), k ≤ L.length ∧ i = .int .i64 k ∧ z = .int .i64 m ∧ m = worstOf ((lateOf L (dueOrd L)).take k)) (fun _ i => L.length - (intOf i).toNat)
        case atStart => exact ⟨0, 0, Nat.zero_le _, rfl, rfl, rfl⟩
        case round =>
          obtain ⟨k, m, hk, rfl, rfl, hm⟩ := hrel
          have Hm := Lib.hid hm
          clear hm
          by_cases hlt2 : k < L.length
          · obtain ⟨g4, cc, hv4, _, hg4lt⟩ := own_form O4.out (by omega)
            injection hv4 with hA4 hn4 hc4'
            subst hA4
            clear hn4 hc4' cc
            obtain ⟨_, hl4, hc4⟩ := own_caps O4.out
            unfold maxLen at hc4
            have d4 := (O4.out.cellAt k (by omega)).trans (intsRow_at (lateOf L (dueOrd L)) k (by omega))
            have E := Lib.hid (worst_take (lateOf L (dueOrd L)) (k := k) (by omega))
            have i1 : (0 : Int) ≤ (k : Int) := Int.natCast_nonneg _
            have i2 : (k : Int) < (L.length : Int) := by omega
            go_wp2
            go_round
            case rel => exact ⟨k + 1, _, by omega, by go_num, rfl, by rw [E.out, ← Hm.out]; (split <;> omega)⟩
            case measure => simp [intOf]; omega
          · have e : (lateOf L (dueOrd L)).take k = lateOf L (dueOrd L) := List.take_of_length_le (by omega)
            have H1 := Lib.hid (show duePlan L = (dueOrd L, m, 0) by rw [H.out, Hm.out, e])
            clear e
            go_wp2
            go_ret3
            exact RetSIC.ok H1.out (own_below Os.out hb4) rfl rfl hs2 b4

set_option maxHeartbeats 800000 in
theorem specOwn_any (w : World) (l : List Int) (u : Value) (hu : Sl w 1 u l.length (intsRow l)) (hn : l.length ≤ 4194304) :
    Calls Try.prog 69 #[u] w (Gives w.heap.size 2 1 l.length (intsRow l) w) := by
  obtain ⟨A, c, rfl, hl, hc, hr⟩ := hu
  have Hr := Lib.hid hr
  clear hr hl hc
  obtain ⟨j0, hj, hy0, hy1, hy2⟩ := info_parts Try.info_ints
  go_enter Try.func69, Try.ntmps69
  go_wp2_with (at_builtin; refine wpList_append_sl _ rfl (.tmp 3) (.tmp 4) _ rfl w.heap.size 2 j0 _ 1 8 Try.underlying38 hj hy0 hy1 hy2 rfl (by omega) (.slice (some ⟨w.heap.size, 0, none⟩) 0 0) 0 [] rfl (own_empty _ _ _ (Nat.le_refl _)) A l.length c (intsRow l) rfl (Hr.out.alloc' _) (intsRow_one l) (by unfold maxLen; omega) (by omega) (by simp) ?_; intro A9 c9 w9 ho9 hg9 hor9; simp only [Nat.zero_add, List.nil_append] at ho9 ⊢; have q9 : Below w.heap.size w w9 := ((Below.refl _ _).alloc (Nat.le_refl _) _).grown hg9 (by simp) (fun k hk => by simp [Value.ownBlock] at hk; omega))
  go_ret
  exact ⟨_, rfl, ho9, q9⟩

set_option maxHeartbeats 4000000 in
theorem specDuePlan_any (w : World) (L : List Job) (v : Value) (hv : Sl w 3 v L.length (jobRow L)) (hf : jobFit L) (hn : L.length ≤ 4194304) :
    Calls Try.prog 40 #[v] w (RetSIC w.heap.size 2 1 intsRow (duePlan L) w) := by
  have Hv := Lib.hid hv
  have Hf := Lib.hid hf
  clear hf
  cases h1 : areJobs L
  · have H := Lib.hid (show duePlan L = ([], 0, 1) by simp [duePlan, h1])
    clear hv
    go_enter Try.func40, Try.ntmps40
    go_wp2_with fail
    refine (specAreJobs_any w L v Hv.out Hf.out hn).mono ?_
    rintro e w2 ⟨rfl, hb2⟩
    rw [h1]
    go_wp2
    go_ret3
    exact RetSIC.err H.out rfl hb2
  · have h41 := areJobs_le h1
    have H := Lib.hid (show duePlan L = (dueOrd L, worstOf (lateOf L (dueOrd L)), 0) by simp [duePlan, h1])
    obtain ⟨j0, hj, hy0, hy1, hy2⟩ := info_parts Try.info_ints
    obtain ⟨A, c, rfl, hl, hc, hr⟩ := hv
    have Hr := Lib.hid hr
    clear hr hl hc
    go_enter Try.func40, Try.ntmps40
    go_wp2_with fail
    refine (specAreJobs_any w L _ Hv.out Hf.out hn).mono ?_
    rintro e w2 ⟨rfl, hb2⟩
    rw [h1]
    have Hr2 := Lib.hid (Hr.out.below' hb2)
    have hs2 := hb2.size
    clear Hr
    go_wp2
    go_loopw [5, 6] (fun s i wr => ∃ (q : Nat) (acc : List Int) (g co : Nat), q ≤ L.length ∧ i = .int .i64 q ∧ s = .slice (some ⟨g, 0, none⟩) q co ∧ acc = orderBy (dueKey L) q ∧ wr.ownsRow w2.heap.size 2 1 (.slice (some ⟨g, 0, none⟩) q co) q (intsRow acc) ∧ Below w2.heap.size w2 wr) (fun _ i _ => L.length - (intOf i).toNat)
    case atStart => exact ⟨0, [], w2.heap.size, 0, Nat.zero_le _, rfl, rfl, rfl, own_empty _ _ _ (Nat.le_refl _), (Below.refl _ _).alloc (Nat.le_refl _) _⟩
    case round =>
      obtain ⟨q, acc, g9, co, hq, rfl, rfl, hacc, ho, hb⟩ := hrel
      have Hacc := Lib.hid hacc
      have Ho := Lib.hid ho
      have hal : acc.length = q := by rw [hacc, orderBy_len]
      clear hacc ho
      by_cases hlt : q < L.length
      · have hd := areJobs_at h1 hlt
        obtain ⟨_, hl9, hc9⟩ := own_caps Ho.out
        unfold maxLen at hc9
        have hg9 := (World.ownsRow.lt Ho.out g9 rfl)
        obtain ⟨hg91, hg92⟩ := hg9
        have Hb := Lib.hid hb
        obtain ⟨wo, rfl⟩ : ∃ wo : World, wo = wr := ⟨_, rfl⟩
        go_wp2
        go_loopw [7] (fun kv wr => ∃ k : Nat, k ≤ q ∧ kv = .int .i64 k ∧ (∀ j, j < k → dueKey L (intsAt acc j).toNat ≤ dueKey L q) ∧ wr.ownsRow w2.heap.size 2 1 (.slice (some ⟨g9, 0, none⟩) q co) q (intsRow acc) ∧ Below w2.heap.size w2 wr) (fun kv _ => q - (intOf kv).toNat)
        case atStart => exact ⟨0, Nat.zero_le _, rfl, fun j h1 => absurd h1 (by omega), Ho.out, Hb.out⟩
        case round =>
          obtain ⟨k, hk, rfl, hall, ho, hb⟩ := hrel
          have Hall := Lib.hid hall
          have Ob := Lib.hid ho
          have hsz := hb.size
          have hgw := (World.ownsRow.lt ho g9 rfl).2
          clear hall ho
          have hk0 : (0 : Int) ≤ (k : Int) := Int.natCast_nonneg _
          have hq0 : (0 : Int) ≤ (q : Int) := Int.natCast_nonneg _
          have hq1 : (q : Int) < (L.length : Int) := by omega
          obtain ⟨g, o, hA, hg, e0, e1, e2⟩ := (Hr2.out.below hb (Nat.le_refl _)).job hlt
          subst hA
          clear e0 e1
          by_cases h0 : k < q
          · skip
            obtain ⟨b, hbe, hbq⟩ := orderBy_mem (dueKey L) q k (by omega)
            rw [← Hacc.out] at hbe
            have d0 := (Ob.out.cellAt k (by omega)).trans (intsRow_at acc k (by omega))
            rw [hbe] at d0
            obtain ⟨g', o', hA, hg', d1, d2, d3⟩ := (Hr2.out.below hb (Nat.le_refl _)).job (k := b) (by omega)
            injection hA with hA
            injection hA with hA1 hA2
            subst hA1
            subst hA2
            clear d1 d2
            have Hbe := Lib.hid hbe
            clear hbe
            have t0 : decide ((k : Int) < (q : Int)) = true := by simp; omega
            have t1 : decide (k < q) = true := by simp; omega
            have i1 : (k : Int) < (q : Int) := by omega
            have i5 : (0 : Int) ≤ (b : Int) := Int.natCast_nonneg _
            have i6 : (b : Int) < (L.length : Int) := by omega
            by_cases hle : (jobAt L b).due ≤ (jobAt L q).due
            · have t2 : decide ((jobAt L b).due ≤ (jobAt L q).due) = true := by simpa using hle
              have Hle := Lib.hid hle
              clear hle
              go_wp2
              go_quiet (fail)
              go_wp2
              go_roundw
              case rel => exact ⟨k + 1, by omega, by go_num, fun j h1 => by
                by_cases e : j = k
                · subst e; rw [Hbe.out]; exact Hle.out
                · exact Hall.out j (by omega), own_drewN Ob.out _, below_drewN hb _⟩
              case measure => simp [intOf]; omega
            · have t2 : decide ((jobAt L b).due ≤ (jobAt L q).due) = false := by simpa using hle
              have Hle := Lib.hid (show ¬ (jobAt L b).due ≤ (jobAt L q).due from hle)
              clear hle
              go_wp2
              go_quiet (fail)
              have Hpos := Lib.hid (show posOf (dueKey L) acc (dueKey L q) = k by rw [Hacc.out]; exact posOf_up hk (fun j h1 => by rw [← Hacc.out]; exact Hall.out j h1) (.inr (by rw [← Hacc.out, Hbe.out]; simp only [Int.toNat_natCast]; have := Hle.out; unfold dueKey; omega)))
              have hkq : (k : Int) ≤ (q : Int) := by omega
              have hkc : k ≤ co := by omega
              have HRD := Lib.hid (fun (A : Option Addr) (hA : k < q → A = some ⟨g9, k, none⟩) => own_drop Ob.out hk hA)
              clear e2
              by_cases hcap : co = k
              · have hcap2 := hcap.symm
                subst hcap2
                go_wp2
                refine wp_region_held_drew (S := (fun _ => True)) (by kernel_rfl) ?_ (fun hHeld => ?_)
                · (try dsimp only); first | done | trivial
                refine wpAnyH_take (i := 0) (v := ?_) rfl (by kernel_rfl) (by kernel_rfl) (by kernel_rfl) (fun _ _ _ h => h) (Or.inl ⟨by rfl, ?_⟩) (by assumption) ?_
                rotate_left
                · (intro w2 hSw; (try dsimp only at hSw); go_simp) <;> with_reducible rfl
                try simp only [Act.put, List.setIfInBounds_toArray, List.set_cons_zero, List.set_cons_succ, List.getElem_toArray, List.getElem_cons_succ, List.getElem_cons_zero]
                refine wpAnyH_take (i := 1) (v := ?_) rfl (by kernel_rfl) (by kernel_rfl) (by kernel_rfl) (fun _ _ _ h => h) (Or.inl ⟨by rfl, ?_⟩) (by assumption) ?_
                rotate_left
                · (intro w2 hSw; (try dsimp only at hSw); go_simp) <;> with_reducible rfl
                try simp only [Act.put, List.setIfInBounds_toArray, List.set_cons_zero, List.set_cons_succ, List.getElem_toArray, List.getElem_cons_succ, List.getElem_cons_zero]
                refine wpAnyH_take (i := 2) (v := ?_) rfl (by kernel_rfl) (by kernel_rfl) (by kernel_rfl) (fun _ _ _ h => h) (Or.inl ⟨by rfl, ?_⟩) (by assumption) ?_
                rotate_left
                · (intro w2 hSw; (try dsimp only at hSw); go_simp) <;> with_reducible rfl
                try simp only [Act.put, List.setIfInBounds_toArray, List.set_cons_zero, List.set_cons_succ, List.getElem_toArray, List.getElem_cons_succ, List.getElem_cons_zero]
                refine wpAnyH_take (i := 4) (v := ?_) rfl (by kernel_rfl) (by kernel_rfl) (by kernel_rfl) (fun _ _ _ h => h) (Or.inl ⟨by rfl, ?_⟩) (by assumption) ?_
                rotate_left
                · (intro w2 hSw; (try dsimp only at hSw); go_simp) <;> with_reducible rfl
                try simp only [Act.put, List.setIfInBounds_toArray, List.set_cons_zero, List.set_cons_succ, List.getElem_toArray, List.getElem_cons_succ, List.getElem_cons_zero]
                refine wpAnyH_take (i := 7) (v := ?_) rfl (by kernel_rfl) (by kernel_rfl) (by kernel_rfl) (fun _ _ _ h => h) (Or.inl ⟨by rfl, ?_⟩) (by assumption) ?_
                rotate_left
                · (intro w2 hSw; (try dsimp only at hSw); go_simp) <;> with_reducible rfl
                try simp only [Act.put, List.setIfInBounds_toArray, List.set_cons_zero, List.set_cons_succ, List.getElem_toArray, List.getElem_cons_succ, List.getElem_cons_zero]
                refine wpAnyH_take (i := 8) (v := ?_) rfl (by kernel_rfl) (by kernel_rfl) (by kernel_rfl) (fun _ _ _ h => h) (Or.inl ⟨by rfl, ?_⟩) (by assumption) ?_
                rotate_left
                · (intro w2 hSw; (try dsimp only at hSw); go_simp) <;> with_reducible rfl
                try simp only [Act.put, List.setIfInBounds_toArray, List.set_cons_zero, List.set_cons_succ, List.getElem_toArray, List.getElem_cons_succ, List.getElem_cons_zero]
                refine wpAnyH_take (i := 9) (v := ?_) rfl (by kernel_rfl) (by kernel_rfl) (by kernel_rfl) (fun _ _ _ h => h) (Or.inl ⟨by rfl, ?_⟩) (by assumption) ?_
                rotate_left
                · (intro w2 hSw; (try dsimp only at hSw); go_simp) <;> with_reducible rfl
                try simp only [Act.put, List.setIfInBounds_toArray, List.set_cons_zero, List.set_cons_succ, List.getElem_toArray, List.getElem_cons_succ, List.getElem_cons_zero]
                refine wpAnyH_ready (rs := [3, 5]) (by kernel_rfl) (by simp) ?_
                refine (AllReadyH.cons rfl (fun K hK => ?_) (AllReadyH.cons rfl (fun K hK => ?_) AllReadyH.nil))
                · skip
                  try dsimp only [List.getElem_toArray, List.getElem_cons_succ, List.getElem_cons_zero]
                  go_simp
                  refine (specOwn_any _ (acc.take k) _ (by rw [show (acc.take k).length = k by rw [List.length_take]; omega, show intsRow (acc.take k) = (intsRow acc).take k by simp [intsRow, List.map_take]]; exact own_take (own_drewN Ob.out _) hk) (by rw [List.length_take]; omega)).mono ?_
                  rw [show (acc.take k).length = k by rw [List.length_take]; omega, show intsRow (acc.take k) = (intsRow acc).take k by simp [intsRow, List.map_take]]
                  rintro e w3 ⟨y3, rfl, ho3, hb3⟩
                  have z3 : wr.heap.size ≤ w3.heap.size := by have := hb3.size; simp at this; omega
                  obtain ⟨A3, c3, rfl, _, _⟩ := own_slice ho3
                  have O3 := Lib.hid ho3
                  clear ho3
                  go_wp2_with fail
                  refine hK.out _ _ ?_ (fun hHeld => ?_)
                  · (try dsimp only); first | done | trivial
                  clear hK K
                  try simp only [Act.put, List.setIfInBounds_toArray, List.set_cons_zero, List.set_cons_succ, List.getElem_toArray, List.getElem_cons_succ, List.getElem_cons_zero]
                  refine wpAnyH_ready (rs := [5]) (by kernel_rfl) (by simp) ?_
                  refine AllReadyH.cons rfl (fun K hK => ?_) AllReadyH.nil
                  try dsimp only [List.getElem_toArray, List.getElem_cons_succ, List.getElem_cons_zero]
                  go_simp
                  refine hK.out _ _ ?_ (fun hHeld => ?_)
                  · (try dsimp only); first | done | trivial
                  clear hK K
                  try simp only [Act.put, List.setIfInBounds_toArray, List.set_cons_zero, List.set_cons_succ, List.getElem_toArray, List.getElem_cons_succ, List.getElem_cons_zero]
                  refine wpAnyH_ready (rs := [6]) (by kernel_rfl) (by simp) ?_
                  refine AllReadyH.cons rfl (fun K hK => ?_) AllReadyH.nil
                  (refine step_append_sl _ (by rfl) (.tmp 46) (.tmp 48) _ (by rfl) _ 2 j0 _ 1 8 Try.underlying38 hj hy0 hy1 hy2 rfl (by omega) _ k ((intsRow acc).take k) (by rfl) (O3.out.alloc _) (some ⟨w3.heap.size, 0, none⟩) 1 1 [.int .i64 (q : Int)] (by rfl) (Rd.of_block (cs := #[.int .i64 (q : Int)]) (heap_alloc_new _ _) rfl) (by intro x hx; simp at hx; subst hx; rfl) (by unfold maxLen; omega) (by omega) (by have := hb3.size; (try simp at this); simp <;> omega) ?_; intro A6 c6 w6 ho6 hg6 hor6; have Z6 := hg6.size)
                  refine hK.out _ _ ?_ (fun hHeld => ?_)
                  · (try dsimp only); first | done | trivial
                  clear hK K
                  try simp only [Act.put, List.setIfInBounds_toArray, List.set_cons_zero, List.set_cons_succ, List.getElem_toArray, List.getElem_cons_succ, List.getElem_cons_zero]
                  refine wpAnyH_ready (rs := [10]) (by kernel_rfl) (by simp) ?_
                  refine AllReadyH.cons rfl (fun K hK => ?_) AllReadyH.nil
                  have b3 : Below w2.heap.size w2 w3 := (below_drewN hb _).trans (hb3.mono (by simp; omega))
                  have r6 : ∀ (A : Option Addr), (k < q → A = some ⟨g9, k, none⟩) → Rd w6 w6.heap.size 1 A (q - k) ((intsRow acc).drop k) := fun A hA => ((((Rd.below (Rd.drewN0 (HRD.out A hA) _) hb3 (Nat.le_refl _)).alloc z3 _)).grown hg6 (by have := z3; simp <;> omega) (fun g hg => (show wr.heap.size ≤ g from (World.ownsRow.lt O3.out g hg).1))).more (by have := z3; (try simp at Z6); omega)
                  have b6 : Below w2.heap.size w2 w6 := (b3.alloc b3.size _).grown hg6 (by have := b3.size; simp <;> omega) (fun g hg => Nat.le_trans hsz (show wr.heap.size ≤ g from (World.ownsRow.lt O3.out g hg).1))
                  (refine step_append_sl _ (by rfl) (.tmp 49) (.tmp 52) _ (by rfl) _ 2 j0 _ 1 8 Try.underlying38 hj hy0 hy1 hy2 rfl (by omega) _ (k + 1) ((intsRow acc).take k ++ [.int .i64 (q : Int)]) (by rfl) ho6 _ 0 _ [] (by rfl) Rd.none_ (fun u hu => by cases hu) (by unfold maxLen; omega) (by omega) (by have := hb3.size; (try simp at this); (try simp at Z6); simp <;> omega) ?_; intro A7 c7 w7 ho7 hg7 hor7)
                  refine hK.out _ _ ?_ (fun hHeld => ?_)
                  · (try dsimp only); first | done | trivial
                  clear hK K
                  try simp only [Act.put, List.setIfInBounds_toArray, List.set_cons_zero, List.set_cons_succ, List.getElem_toArray, List.getElem_cons_succ, List.getElem_cons_zero]
                  refine wpAnyH_take (i := 11) (v := ?_) rfl (by kernel_rfl) (by kernel_rfl) (by kernel_rfl) (fun _ _ _ h => h) (Or.inl ⟨by rfl, ?_⟩) (by assumption) ?_
                  rotate_left
                  · (intro w2 hSw; (try dsimp only at hSw); go_simp) <;> with_reducible rfl
                  try simp only [Act.put, List.setIfInBounds_toArray, List.set_cons_zero, List.set_cons_succ, List.getElem_toArray, List.getElem_cons_succ, List.getElem_cons_zero]
                  refine wpAnyH_done (by kernel_rfl) ?_ _
                  have h6 : k + 1 + 0 = q + 1 := by omega
                  rw [h6] at ho7
                  have O7 := Lib.hid ho7
                  have b7 : Below w2.heap.size w2 w7 := b6.grown hg7 b6.size (fun g hg => Nat.le_trans hsz (by have := (World.ownsRow.lt ho6 g hg).1; first | exact this | (rw [World.size_alloc] at this; exact Nat.le_of_succ_le this)))
                  obtain ⟨g7, cc, hv7, _, hg7lt⟩ := own_form O7.out (by omega)
                  injection hv7 with hA7 hn7 hc7'
                  subst hA7
                  clear hn7 hc7' cc ho7 hor7 hg7 ho6 hor6 hg6 r6
                  go_wp2
                  try rw [h6]
                  go_roundw
                  case rel =>
                    refine ⟨q + 1, insAt acc k q, g7, c7, by omega, by go_num, rfl, by rw [orderBy, ← Hacc.out, Hpos.out], ?_, b7⟩
                    have h := O7.out
                    have h2 : ((intsRow acc).take k ++ [.int .i64 (q : Int)]) ++ [] = intsRow (insAt acc k q) := by rw [← intsRow_insAt, List.drop_of_length_le (l := intsRow acc) (by rw [intsRow_len]; omega)]
                    rw [h2] at h
                    first | exact own_base h hsz | exact own_base h (by simp <;> omega)
                  case measure => simp [intOf]; omega
                · skip
                  try dsimp only [List.getElem_toArray, List.getElem_cons_succ, List.getElem_cons_zero]
                  go_simp
                  refine hK.out _ _ ?_ (fun hHeld => ?_)
                  · (try dsimp only); first | done | trivial
                  clear hK K
                  try simp only [Act.put, List.setIfInBounds_toArray, List.set_cons_zero, List.set_cons_succ, List.getElem_toArray, List.getElem_cons_succ, List.getElem_cons_zero]
                  refine wpAnyH_ready (rs := [3]) (by kernel_rfl) (by simp) ?_
                  refine AllReadyH.cons rfl (fun K hK => ?_) AllReadyH.nil
                  try dsimp only [List.getElem_toArray, List.getElem_cons_succ, List.getElem_cons_zero]
                  go_simp
                  refine (specOwn_any _ (acc.take k) _ (by rw [show (acc.take k).length = k by rw [List.length_take]; omega, show intsRow (acc.take k) = (intsRow acc).take k by simp [intsRow, List.map_take]]; exact own_take ((own_drewN Ob.out _).alloc _) hk) (by rw [List.length_take]; omega)).mono ?_
                  rw [show (acc.take k).length = k by rw [List.length_take]; omega, show intsRow (acc.take k) = (intsRow acc).take k by simp [intsRow, List.map_take]]
                  rintro e w3 ⟨y3, rfl, ho3, hb3⟩
                  have z3 : wr.heap.size ≤ w3.heap.size := by have := hb3.size; simp at this; omega
                  obtain ⟨A3, c3, rfl, _, _⟩ := own_slice ho3
                  have O3 := Lib.hid ho3
                  clear ho3
                  go_wp2_with fail
                  refine hK.out _ _ ?_ (fun hHeld => ?_)
                  · (try dsimp only); first | done | trivial
                  clear hK K
                  try simp only [Act.put, List.setIfInBounds_toArray, List.set_cons_zero, List.set_cons_succ, List.getElem_toArray, List.getElem_cons_succ, List.getElem_cons_zero]
                  refine wpAnyH_ready (rs := [6]) (by kernel_rfl) (by simp) ?_
                  refine AllReadyH.cons rfl (fun K hK => ?_) AllReadyH.nil
                  (refine step_append_sl _ (by rfl) (.tmp 46) (.tmp 48) _ (by rfl) _ 2 j0 _ 1 8 Try.underlying38 hj hy0 hy1 hy2 rfl (by omega) _ k ((intsRow acc).take k) (by rfl) (O3.out) (some ⟨wr.heap.size, 0, none⟩) 1 1 [.int .i64 (q : Int)] (by rfl) (Rd.of_block (cs := #[.int .i64 (q : Int)]) ((hb3.block _ (by simp)).trans (heap_alloc_new _ _)) rfl) (by intro x hx; simp at hx; subst hx; rfl) (by unfold maxLen; omega) (by omega) (by have := hb3.size; (try simp at this); simp <;> omega) ?_; intro A6 c6 w6 ho6 hg6 hor6; have Z6 := hg6.size)
                  refine hK.out _ _ ?_ (fun hHeld => ?_)
                  · (try dsimp only); first | done | trivial
                  clear hK K
                  try simp only [Act.put, List.setIfInBounds_toArray, List.set_cons_zero, List.set_cons_succ, List.getElem_toArray, List.getElem_cons_succ, List.getElem_cons_zero]
                  refine wpAnyH_ready (rs := [10]) (by kernel_rfl) (by simp) ?_
                  refine AllReadyH.cons rfl (fun K hK => ?_) AllReadyH.nil
                  have b3 : Below w2.heap.size w2 w3 := ((below_drewN hb _).alloc (by simp; omega) _).trans (hb3.mono (by simp; omega))
                  have r6 : ∀ (A : Option Addr), (k < q → A = some ⟨g9, k, none⟩) → Rd w6 w6.heap.size 1 A (q - k) ((intsRow acc).drop k) := fun A hA => (((Rd.below (Rd.alloc (Rd.drewN0 (HRD.out A hA) _) (Nat.le_refl _) _) hb3 (by rw [World.size_alloc]; exact Nat.le_succ _))).grown hg6 (by have := z3; simp <;> omega) (fun g hg => (by have h := (World.ownsRow.lt O3.out g hg).1; rw [World.size_alloc] at h; exact Nat.le_of_succ_le h))).more (by have := z3; (try simp at Z6); omega)
                  have b6 : Below w2.heap.size w2 w6 := b3.grown hg6 b3.size (fun g hg => Nat.le_trans hsz (by have h := (World.ownsRow.lt O3.out g hg).1; rw [World.size_alloc] at h; exact Nat.le_of_succ_le h))
                  (refine step_append_sl _ (by rfl) (.tmp 49) (.tmp 52) _ (by rfl) _ 2 j0 _ 1 8 Try.underlying38 hj hy0 hy1 hy2 rfl (by omega) _ (k + 1) ((intsRow acc).take k ++ [.int .i64 (q : Int)]) (by rfl) ho6 _ 0 _ [] (by rfl) Rd.none_ (fun u hu => by cases hu) (by unfold maxLen; omega) (by omega) (by have := hb3.size; (try simp at this); (try simp at Z6); simp <;> omega) ?_; intro A7 c7 w7 ho7 hg7 hor7)
                  refine hK.out _ _ ?_ (fun hHeld => ?_)
                  · (try dsimp only); first | done | trivial
                  clear hK K
                  try simp only [Act.put, List.setIfInBounds_toArray, List.set_cons_zero, List.set_cons_succ, List.getElem_toArray, List.getElem_cons_succ, List.getElem_cons_zero]
                  refine wpAnyH_take (i := 11) (v := ?_) rfl (by kernel_rfl) (by kernel_rfl) (by kernel_rfl) (fun _ _ _ h => h) (Or.inl ⟨by rfl, ?_⟩) (by assumption) ?_
                  rotate_left
                  · (intro w2 hSw; (try dsimp only at hSw); go_simp) <;> with_reducible rfl
                  try simp only [Act.put, List.setIfInBounds_toArray, List.set_cons_zero, List.set_cons_succ, List.getElem_toArray, List.getElem_cons_succ, List.getElem_cons_zero]
                  refine wpAnyH_done (by kernel_rfl) ?_ _
                  have h6 : k + 1 + 0 = q + 1 := by omega
                  rw [h6] at ho7
                  have O7 := Lib.hid ho7
                  have b7 : Below w2.heap.size w2 w7 := b6.grown hg7 b6.size (fun g hg => Nat.le_trans hsz (by have := (World.ownsRow.lt ho6 g hg).1; first | exact this | (rw [World.size_alloc] at this; exact Nat.le_of_succ_le this)))
                  obtain ⟨g7, cc, hv7, _, hg7lt⟩ := own_form O7.out (by omega)
                  injection hv7 with hA7 hn7 hc7'
                  subst hA7
                  clear hn7 hc7' cc ho7 hor7 hg7 ho6 hor6 hg6 r6
                  go_wp2
                  try rw [h6]
                  go_roundw
                  case rel =>
                    refine ⟨q + 1, insAt acc k q, g7, c7, by omega, by go_num, rfl, by rw [orderBy, ← Hacc.out, Hpos.out], ?_, b7⟩
                    have h := O7.out
                    have h2 : ((intsRow acc).take k ++ [.int .i64 (q : Int)]) ++ [] = intsRow (insAt acc k q) := by rw [← intsRow_insAt, List.drop_of_length_le (l := intsRow acc) (by rw [intsRow_len]; omega)]
                    rw [h2] at h
                    first | exact own_base h hsz | exact own_base h (by simp <;> omega)
                  case measure => simp [intOf]; omega
              · skip
                go_wp2
                refine wp_region_held_drew (S := (fun _ => True)) (by kernel_rfl) ?_ (fun hHeld => ?_)
                · (try dsimp only); first | done | trivial
                refine wpAnyH_take (i := 0) (v := ?_) rfl (by kernel_rfl) (by kernel_rfl) (by kernel_rfl) (fun _ _ _ h => h) (Or.inl ⟨by rfl, ?_⟩) (by assumption) ?_
                rotate_left
                · (intro w2 hSw; (try dsimp only at hSw); go_simp) <;> with_reducible rfl
                try simp only [Act.put, List.setIfInBounds_toArray, List.set_cons_zero, List.set_cons_succ, List.getElem_toArray, List.getElem_cons_succ, List.getElem_cons_zero]
                refine wpAnyH_take (i := 1) (v := ?_) rfl (by kernel_rfl) (by kernel_rfl) (by kernel_rfl) (fun _ _ _ h => h) (Or.inl ⟨by rfl, ?_⟩) (by assumption) ?_
                rotate_left
                · (intro w2 hSw; (try dsimp only at hSw); go_simp) <;> with_reducible rfl
                try simp only [Act.put, List.setIfInBounds_toArray, List.set_cons_zero, List.set_cons_succ, List.getElem_toArray, List.getElem_cons_succ, List.getElem_cons_zero]
                refine wpAnyH_take (i := 2) (v := ?_) rfl (by kernel_rfl) (by kernel_rfl) (by kernel_rfl) (fun _ _ _ h => h) (Or.inl ⟨by rfl, ?_⟩) (by assumption) ?_
                rotate_left
                · (intro w2 hSw; (try dsimp only at hSw); go_simp) <;> with_reducible rfl
                try simp only [Act.put, List.setIfInBounds_toArray, List.set_cons_zero, List.set_cons_succ, List.getElem_toArray, List.getElem_cons_succ, List.getElem_cons_zero]
                refine wpAnyH_take (i := 4) (v := ?_) rfl (by kernel_rfl) (by kernel_rfl) (by kernel_rfl) (fun _ _ _ h => h) (Or.inl ⟨by rfl, ?_⟩) (by assumption) ?_
                rotate_left
                · (intro w2 hSw; (try dsimp only at hSw); go_simp) <;> with_reducible rfl
                try simp only [Act.put, List.setIfInBounds_toArray, List.set_cons_zero, List.set_cons_succ, List.getElem_toArray, List.getElem_cons_succ, List.getElem_cons_zero]
                refine wpAnyH_take (i := 7) (v := ?_) rfl (by kernel_rfl) (by kernel_rfl) (by kernel_rfl) (fun _ _ _ h => h) (Or.inl ⟨by rfl, ?_⟩) (by assumption) ?_
                rotate_left
                · (intro w2 hSw; (try dsimp only at hSw); go_simp) <;> with_reducible rfl
                try simp only [Act.put, List.setIfInBounds_toArray, List.set_cons_zero, List.set_cons_succ, List.getElem_toArray, List.getElem_cons_succ, List.getElem_cons_zero]
                refine wpAnyH_take (i := 8) (v := ?_) rfl (by kernel_rfl) (by kernel_rfl) (by kernel_rfl) (fun _ _ _ h => h) (Or.inl ⟨by rfl, ?_⟩) (by assumption) ?_
                rotate_left
                · (intro w2 hSw; (try dsimp only at hSw); go_simp) <;> with_reducible rfl
                try simp only [Act.put, List.setIfInBounds_toArray, List.set_cons_zero, List.set_cons_succ, List.getElem_toArray, List.getElem_cons_succ, List.getElem_cons_zero]
                refine wpAnyH_take (i := 9) (v := ?_) rfl (by kernel_rfl) (by kernel_rfl) (by kernel_rfl) (fun _ _ _ h => h) (Or.inl ⟨by rfl, ?_⟩) (by assumption) ?_
                rotate_left
                · (intro w2 hSw; (try dsimp only at hSw); go_simp) <;> with_reducible rfl
                try simp only [Act.put, List.setIfInBounds_toArray, List.set_cons_zero, List.set_cons_succ, List.getElem_toArray, List.getElem_cons_succ, List.getElem_cons_zero]
                refine wpAnyH_ready (rs := [3, 5]) (by kernel_rfl) (by simp) ?_
                refine (AllReadyH.cons rfl (fun K hK => ?_) (AllReadyH.cons rfl (fun K hK => ?_) AllReadyH.nil))
                · skip
                  try dsimp only [List.getElem_toArray, List.getElem_cons_succ, List.getElem_cons_zero]
                  go_simp
                  refine (specOwn_any _ (acc.take k) _ (by rw [show (acc.take k).length = k by rw [List.length_take]; omega, show intsRow (acc.take k) = (intsRow acc).take k by simp [intsRow, List.map_take]]; exact own_take (own_drewN Ob.out _) hk) (by rw [List.length_take]; omega)).mono ?_
                  rw [show (acc.take k).length = k by rw [List.length_take]; omega, show intsRow (acc.take k) = (intsRow acc).take k by simp [intsRow, List.map_take]]
                  rintro e w3 ⟨y3, rfl, ho3, hb3⟩
                  have z3 : wr.heap.size ≤ w3.heap.size := by have := hb3.size; simp at this; omega
                  obtain ⟨A3, c3, rfl, _, _⟩ := own_slice ho3
                  have O3 := Lib.hid ho3
                  clear ho3
                  go_wp2_with fail
                  refine hK.out _ _ ?_ (fun hHeld => ?_)
                  · (try dsimp only); first | done | trivial
                  clear hK K
                  try simp only [Act.put, List.setIfInBounds_toArray, List.set_cons_zero, List.set_cons_succ, List.getElem_toArray, List.getElem_cons_succ, List.getElem_cons_zero]
                  refine wpAnyH_ready (rs := [5]) (by kernel_rfl) (by simp) ?_
                  refine AllReadyH.cons rfl (fun K hK => ?_) AllReadyH.nil
                  try dsimp only [List.getElem_toArray, List.getElem_cons_succ, List.getElem_cons_zero]
                  go_simp
                  refine hK.out _ _ ?_ (fun hHeld => ?_)
                  · (try dsimp only); first | done | trivial
                  clear hK K
                  try simp only [Act.put, List.setIfInBounds_toArray, List.set_cons_zero, List.set_cons_succ, List.getElem_toArray, List.getElem_cons_succ, List.getElem_cons_zero]
                  refine wpAnyH_ready (rs := [6]) (by kernel_rfl) (by simp) ?_
                  refine AllReadyH.cons rfl (fun K hK => ?_) AllReadyH.nil
                  (refine step_append_sl _ (by rfl) (.tmp 46) (.tmp 48) _ (by rfl) _ 2 j0 _ 1 8 Try.underlying38 hj hy0 hy1 hy2 rfl (by omega) _ k ((intsRow acc).take k) (by rfl) (O3.out.alloc _) (some ⟨w3.heap.size, 0, none⟩) 1 1 [.int .i64 (q : Int)] (by rfl) (Rd.of_block (cs := #[.int .i64 (q : Int)]) (heap_alloc_new _ _) rfl) (by intro x hx; simp at hx; subst hx; rfl) (by unfold maxLen; omega) (by omega) (by have := hb3.size; (try simp at this); simp <;> omega) ?_; intro A6 c6 w6 ho6 hg6 hor6; have Z6 := hg6.size)
                  refine hK.out _ _ ?_ (fun hHeld => ?_)
                  · (try dsimp only); first | done | trivial
                  clear hK K
                  try simp only [Act.put, List.setIfInBounds_toArray, List.set_cons_zero, List.set_cons_succ, List.getElem_toArray, List.getElem_cons_succ, List.getElem_cons_zero]
                  refine wpAnyH_ready (rs := [10]) (by kernel_rfl) (by simp) ?_
                  refine AllReadyH.cons rfl (fun K hK => ?_) AllReadyH.nil
                  have b3 : Below w2.heap.size w2 w3 := (below_drewN hb _).trans (hb3.mono (by simp; omega))
                  have r6 : ∀ (A : Option Addr), (k < q → A = some ⟨g9, k, none⟩) → Rd w6 w6.heap.size 1 A (q - k) ((intsRow acc).drop k) := fun A hA => ((((Rd.below (Rd.drewN0 (HRD.out A hA) _) hb3 (Nat.le_refl _)).alloc z3 _)).grown hg6 (by have := z3; simp <;> omega) (fun g hg => (show wr.heap.size ≤ g from (World.ownsRow.lt O3.out g hg).1))).more (by have := z3; (try simp at Z6); omega)
                  have b6 : Below w2.heap.size w2 w6 := (b3.alloc b3.size _).grown hg6 (by have := b3.size; simp <;> omega) (fun g hg => Nat.le_trans hsz (show wr.heap.size ≤ g from (World.ownsRow.lt O3.out g hg).1))
                  (refine step_append_sl _ (by rfl) (.tmp 49) (.tmp 52) _ (by rfl) _ 2 j0 _ 1 8 Try.underlying38 hj hy0 hy1 hy2 rfl (by omega) _ (k + 1) ((intsRow acc).take k ++ [.int .i64 (q : Int)]) (by rfl) ho6 _ (q - k) _ ((intsRow acc).drop k) (by rfl) (by exact r6 _ (fun h => by first | rfl | exact if_neg (by omega) | (exfalso; omega))) (fun u hu => intsRow_one acc u (List.mem_of_mem_drop hu)) (by unfold maxLen; omega) (by omega) (by have := hb3.size; (try simp at this); (try simp at Z6); simp <;> omega) ?_; intro A7 c7 w7 ho7 hg7 hor7)
                  refine hK.out _ _ ?_ (fun hHeld => ?_)
                  · (try dsimp only); first | done | trivial
                  clear hK K
                  try simp only [Act.put, List.setIfInBounds_toArray, List.set_cons_zero, List.set_cons_succ, List.getElem_toArray, List.getElem_cons_succ, List.getElem_cons_zero]
                  refine wpAnyH_take (i := 11) (v := ?_) rfl (by kernel_rfl) (by kernel_rfl) (by kernel_rfl) (fun _ _ _ h => h) (Or.inl ⟨by rfl, ?_⟩) (by assumption) ?_
                  rotate_left
                  · (intro w2 hSw; (try dsimp only at hSw); go_simp) <;> with_reducible rfl
                  try simp only [Act.put, List.setIfInBounds_toArray, List.set_cons_zero, List.set_cons_succ, List.getElem_toArray, List.getElem_cons_succ, List.getElem_cons_zero]
                  refine wpAnyH_done (by kernel_rfl) ?_ _
                  have h6 : k + 1 + (q - k) = q + 1 := by omega
                  rw [h6] at ho7
                  have O7 := Lib.hid ho7
                  have b7 : Below w2.heap.size w2 w7 := b6.grown hg7 b6.size (fun g hg => Nat.le_trans hsz (by have := (World.ownsRow.lt ho6 g hg).1; first | exact this | (rw [World.size_alloc] at this; exact Nat.le_of_succ_le this)))
                  obtain ⟨g7, cc, hv7, _, hg7lt⟩ := own_form O7.out (by omega)
                  injection hv7 with hA7 hn7 hc7'
                  subst hA7
                  clear hn7 hc7' cc ho7 hor7 hg7 ho6 hor6 hg6 r6
                  go_wp2
                  try rw [h6]
                  go_roundw
                  case rel =>
                    refine ⟨q + 1, insAt acc k q, g7, c7, by omega, by go_num, rfl, by rw [orderBy, ← Hacc.out, Hpos.out], ?_, b7⟩
                    have h := O7.out
                    rw [intsRow_insAt] at h
                    first | exact own_base h hsz | exact own_base h (by simp <;> omega)
                  case measure => simp [intOf]; omega
                · skip
                  try dsimp only [List.getElem_toArray, List.getElem_cons_succ, List.getElem_cons_zero]
                  go_simp
                  refine hK.out _ _ ?_ (fun hHeld => ?_)
                  · (try dsimp only); first | done | trivial
                  clear hK K
                  try simp only [Act.put, List.setIfInBounds_toArray, List.set_cons_zero, List.set_cons_succ, List.getElem_toArray, List.getElem_cons_succ, List.getElem_cons_zero]
                  refine wpAnyH_ready (rs := [3]) (by kernel_rfl) (by simp) ?_
                  refine AllReadyH.cons rfl (fun K hK => ?_) AllReadyH.nil
                  try dsimp only [List.getElem_toArray, List.getElem_cons_succ, List.getElem_cons_zero]
                  go_simp
                  refine (specOwn_any _ (acc.take k) _ (by rw [show (acc.take k).length = k by rw [List.length_take]; omega, show intsRow (acc.take k) = (intsRow acc).take k by simp [intsRow, List.map_take]]; exact own_take ((own_drewN Ob.out _).alloc _) hk) (by rw [List.length_take]; omega)).mono ?_
                  rw [show (acc.take k).length = k by rw [List.length_take]; omega, show intsRow (acc.take k) = (intsRow acc).take k by simp [intsRow, List.map_take]]
                  rintro e w3 ⟨y3, rfl, ho3, hb3⟩
                  have z3 : wr.heap.size ≤ w3.heap.size := by have := hb3.size; simp at this; omega
                  obtain ⟨A3, c3, rfl, _, _⟩ := own_slice ho3
                  have O3 := Lib.hid ho3
                  clear ho3
                  go_wp2_with fail
                  refine hK.out _ _ ?_ (fun hHeld => ?_)
                  · (try dsimp only); first | done | trivial
                  clear hK K
                  try simp only [Act.put, List.setIfInBounds_toArray, List.set_cons_zero, List.set_cons_succ, List.getElem_toArray, List.getElem_cons_succ, List.getElem_cons_zero]
                  refine wpAnyH_ready (rs := [6]) (by kernel_rfl) (by simp) ?_
                  refine AllReadyH.cons rfl (fun K hK => ?_) AllReadyH.nil
                  (refine step_append_sl _ (by rfl) (.tmp 46) (.tmp 48) _ (by rfl) _ 2 j0 _ 1 8 Try.underlying38 hj hy0 hy1 hy2 rfl (by omega) _ k ((intsRow acc).take k) (by rfl) (O3.out) (some ⟨wr.heap.size, 0, none⟩) 1 1 [.int .i64 (q : Int)] (by rfl) (Rd.of_block (cs := #[.int .i64 (q : Int)]) ((hb3.block _ (by simp)).trans (heap_alloc_new _ _)) rfl) (by intro x hx; simp at hx; subst hx; rfl) (by unfold maxLen; omega) (by omega) (by have := hb3.size; (try simp at this); simp <;> omega) ?_; intro A6 c6 w6 ho6 hg6 hor6; have Z6 := hg6.size)
                  refine hK.out _ _ ?_ (fun hHeld => ?_)
                  · (try dsimp only); first | done | trivial
                  clear hK K
                  try simp only [Act.put, List.setIfInBounds_toArray, List.set_cons_zero, List.set_cons_succ, List.getElem_toArray, List.getElem_cons_succ, List.getElem_cons_zero]
                  refine wpAnyH_ready (rs := [10]) (by kernel_rfl) (by simp) ?_
                  refine AllReadyH.cons rfl (fun K hK => ?_) AllReadyH.nil
                  have b3 : Below w2.heap.size w2 w3 := ((below_drewN hb _).alloc (by simp; omega) _).trans (hb3.mono (by simp; omega))
                  have r6 : ∀ (A : Option Addr), (k < q → A = some ⟨g9, k, none⟩) → Rd w6 w6.heap.size 1 A (q - k) ((intsRow acc).drop k) := fun A hA => (((Rd.below (Rd.alloc (Rd.drewN0 (HRD.out A hA) _) (Nat.le_refl _) _) hb3 (by rw [World.size_alloc]; exact Nat.le_succ _))).grown hg6 (by have := z3; simp <;> omega) (fun g hg => (by have h := (World.ownsRow.lt O3.out g hg).1; rw [World.size_alloc] at h; exact Nat.le_of_succ_le h))).more (by have := z3; (try simp at Z6); omega)
                  have b6 : Below w2.heap.size w2 w6 := b3.grown hg6 b3.size (fun g hg => Nat.le_trans hsz (by have h := (World.ownsRow.lt O3.out g hg).1; rw [World.size_alloc] at h; exact Nat.le_of_succ_le h))
                  (refine step_append_sl _ (by rfl) (.tmp 49) (.tmp 52) _ (by rfl) _ 2 j0 _ 1 8 Try.underlying38 hj hy0 hy1 hy2 rfl (by omega) _ (k + 1) ((intsRow acc).take k ++ [.int .i64 (q : Int)]) (by rfl) ho6 _ (q - k) _ ((intsRow acc).drop k) (by rfl) (by exact r6 _ (fun h => by first | rfl | exact if_neg (by omega) | (exfalso; omega))) (fun u hu => intsRow_one acc u (List.mem_of_mem_drop hu)) (by unfold maxLen; omega) (by omega) (by have := hb3.size; (try simp at this); (try simp at Z6); simp <;> omega) ?_; intro A7 c7 w7 ho7 hg7 hor7)
                  refine hK.out _ _ ?_ (fun hHeld => ?_)
                  · (try dsimp only); first | done | trivial
                  clear hK K
                  try simp only [Act.put, List.setIfInBounds_toArray, List.set_cons_zero, List.set_cons_succ, List.getElem_toArray, List.getElem_cons_succ, List.getElem_cons_zero]
                  refine wpAnyH_take (i := 11) (v := ?_) rfl (by kernel_rfl) (by kernel_rfl) (by kernel_rfl) (fun _ _ _ h => h) (Or.inl ⟨by rfl, ?_⟩) (by assumption) ?_
                  rotate_left
                  · (intro w2 hSw; (try dsimp only at hSw); go_simp) <;> with_reducible rfl
                  try simp only [Act.put, List.setIfInBounds_toArray, List.set_cons_zero, List.set_cons_succ, List.getElem_toArray, List.getElem_cons_succ, List.getElem_cons_zero]
                  refine wpAnyH_done (by kernel_rfl) ?_ _
                  have h6 : k + 1 + (q - k) = q + 1 := by omega
                  rw [h6] at ho7
                  have O7 := Lib.hid ho7
                  have b7 : Below w2.heap.size w2 w7 := b6.grown hg7 b6.size (fun g hg => Nat.le_trans hsz (by have := (World.ownsRow.lt ho6 g hg).1; first | exact this | (rw [World.size_alloc] at this; exact Nat.le_of_succ_le this)))
                  obtain ⟨g7, cc, hv7, _, hg7lt⟩ := own_form O7.out (by omega)
                  injection hv7 with hA7 hn7 hc7'
                  subst hA7
                  clear hn7 hc7' cc ho7 hor7 hg7 ho6 hor6 hg6 r6
                  go_wp2
                  try rw [h6]
                  go_roundw
                  case rel =>
                    refine ⟨q + 1, insAt acc k q, g7, c7, by omega, by go_num, rfl, by rw [orderBy, ← Hacc.out, Hpos.out], ?_, b7⟩
                    have h := O7.out
                    rw [intsRow_insAt] at h
                    first | exact own_base h hsz | exact own_base h (by simp <;> omega)
                  case measure => simp [intOf]; omega
          · have hkk : k = q := by omega
            have t0 : decide ((k : Int) < (q : Int)) = false := by simp; omega
            have t1 : decide (k < q) = false := by simp; omega
            have HK := Lib.hid hkk
            clear hkk
            go_wp2
            go_quiet (fail)
            have Hpos := Lib.hid (show posOf (dueKey L) acc (dueKey L q) = k by rw [Hacc.out]; exact posOf_up hk (fun j h1 => by rw [← Hacc.out]; exact Hall.out j h1) (.inl HK.out))
            have hkq : (k : Int) ≤ (q : Int) := by omega
            have hkc : k ≤ co := by omega
            have HRD := Lib.hid (fun (A : Option Addr) (hA : k < q → A = some ⟨g9, k, none⟩) => own_drop Ob.out hk hA)
            clear e2
            by_cases hcap : co = k
            · have hcap2 := hcap.symm
              subst hcap2
              go_wp2
              refine wp_region_held_drew (S := (fun _ => True)) (by kernel_rfl) ?_ (fun hHeld => ?_)
              · (try dsimp only); first | done | trivial
              refine wpAnyH_take (i := 0) (v := ?_) rfl (by kernel_rfl) (by kernel_rfl) (by kernel_rfl) (fun _ _ _ h => h) (Or.inl ⟨by rfl, ?_⟩) (by assumption) ?_
              rotate_left
              · (intro w2 hSw; (try dsimp only at hSw); go_simp) <;> with_reducible rfl
              try simp only [Act.put, List.setIfInBounds_toArray, List.set_cons_zero, List.set_cons_succ, List.getElem_toArray, List.getElem_cons_succ, List.getElem_cons_zero]
              refine wpAnyH_take (i := 1) (v := ?_) rfl (by kernel_rfl) (by kernel_rfl) (by kernel_rfl) (fun _ _ _ h => h) (Or.inl ⟨by rfl, ?_⟩) (by assumption) ?_
              rotate_left
              · (intro w2 hSw; (try dsimp only at hSw); go_simp) <;> with_reducible rfl
              try simp only [Act.put, List.setIfInBounds_toArray, List.set_cons_zero, List.set_cons_succ, List.getElem_toArray, List.getElem_cons_succ, List.getElem_cons_zero]
              refine wpAnyH_take (i := 2) (v := ?_) rfl (by kernel_rfl) (by kernel_rfl) (by kernel_rfl) (fun _ _ _ h => h) (Or.inl ⟨by rfl, ?_⟩) (by assumption) ?_
              rotate_left
              · (intro w2 hSw; (try dsimp only at hSw); go_simp) <;> with_reducible rfl
              try simp only [Act.put, List.setIfInBounds_toArray, List.set_cons_zero, List.set_cons_succ, List.getElem_toArray, List.getElem_cons_succ, List.getElem_cons_zero]
              refine wpAnyH_take (i := 4) (v := ?_) rfl (by kernel_rfl) (by kernel_rfl) (by kernel_rfl) (fun _ _ _ h => h) (Or.inl ⟨by rfl, ?_⟩) (by assumption) ?_
              rotate_left
              · (intro w2 hSw; (try dsimp only at hSw); go_simp) <;> with_reducible rfl
              try simp only [Act.put, List.setIfInBounds_toArray, List.set_cons_zero, List.set_cons_succ, List.getElem_toArray, List.getElem_cons_succ, List.getElem_cons_zero]
              refine wpAnyH_take (i := 7) (v := ?_) rfl (by kernel_rfl) (by kernel_rfl) (by kernel_rfl) (fun _ _ _ h => h) (Or.inl ⟨by rfl, ?_⟩) (by assumption) ?_
              rotate_left
              · (intro w2 hSw; (try dsimp only at hSw); go_simp) <;> with_reducible rfl
              try simp only [Act.put, List.setIfInBounds_toArray, List.set_cons_zero, List.set_cons_succ, List.getElem_toArray, List.getElem_cons_succ, List.getElem_cons_zero]
              refine wpAnyH_take (i := 8) (v := ?_) rfl (by kernel_rfl) (by kernel_rfl) (by kernel_rfl) (fun _ _ _ h => h) (Or.inl ⟨by rfl, ?_⟩) (by assumption) ?_
              rotate_left
              · (intro w2 hSw; (try dsimp only at hSw); go_simp) <;> with_reducible rfl
              try simp only [Act.put, List.setIfInBounds_toArray, List.set_cons_zero, List.set_cons_succ, List.getElem_toArray, List.getElem_cons_succ, List.getElem_cons_zero]
              refine wpAnyH_take (i := 9) (v := ?_) rfl (by kernel_rfl) (by kernel_rfl) (by kernel_rfl) (fun _ _ _ h => h) (Or.inl ⟨by rfl, ?_⟩) (by assumption) ?_
              rotate_left
              · (intro w2 hSw; (try dsimp only at hSw); go_simp) <;> with_reducible rfl
              try simp only [Act.put, List.setIfInBounds_toArray, List.set_cons_zero, List.set_cons_succ, List.getElem_toArray, List.getElem_cons_succ, List.getElem_cons_zero]
              refine wpAnyH_ready (rs := [3, 5]) (by kernel_rfl) (by simp) ?_
              refine (AllReadyH.cons rfl (fun K hK => ?_) (AllReadyH.cons rfl (fun K hK => ?_) AllReadyH.nil))
              · skip
                try dsimp only [List.getElem_toArray, List.getElem_cons_succ, List.getElem_cons_zero]
                go_simp
                refine (specOwn_any _ (acc.take k) _ (by rw [show (acc.take k).length = k by rw [List.length_take]; omega, show intsRow (acc.take k) = (intsRow acc).take k by simp [intsRow, List.map_take]]; exact own_take (own_drewN Ob.out _) hk) (by rw [List.length_take]; omega)).mono ?_
                rw [show (acc.take k).length = k by rw [List.length_take]; omega, show intsRow (acc.take k) = (intsRow acc).take k by simp [intsRow, List.map_take]]
                rintro e w3 ⟨y3, rfl, ho3, hb3⟩
                have z3 : wr.heap.size ≤ w3.heap.size := by have := hb3.size; simp at this; omega
                obtain ⟨A3, c3, rfl, _, _⟩ := own_slice ho3
                have O3 := Lib.hid ho3
                clear ho3
                go_wp2_with fail
                refine hK.out _ _ ?_ (fun hHeld => ?_)
                · (try dsimp only); first | done | trivial
                clear hK K
                try simp only [Act.put, List.setIfInBounds_toArray, List.set_cons_zero, List.set_cons_succ, List.getElem_toArray, List.getElem_cons_succ, List.getElem_cons_zero]
                refine wpAnyH_ready (rs := [5]) (by kernel_rfl) (by simp) ?_
                refine AllReadyH.cons rfl (fun K hK => ?_) AllReadyH.nil
                try dsimp only [List.getElem_toArray, List.getElem_cons_succ, List.getElem_cons_zero]
                go_simp
                refine hK.out _ _ ?_ (fun hHeld => ?_)
                · (try dsimp only); first | done | trivial
                clear hK K
                try simp only [Act.put, List.setIfInBounds_toArray, List.set_cons_zero, List.set_cons_succ, List.getElem_toArray, List.getElem_cons_succ, List.getElem_cons_zero]
                refine wpAnyH_ready (rs := [6]) (by kernel_rfl) (by simp) ?_
                refine AllReadyH.cons rfl (fun K hK => ?_) AllReadyH.nil
                (refine step_append_sl _ (by rfl) (.tmp 46) (.tmp 48) _ (by rfl) _ 2 j0 _ 1 8 Try.underlying38 hj hy0 hy1 hy2 rfl (by omega) _ k ((intsRow acc).take k) (by rfl) (O3.out.alloc _) (some ⟨w3.heap.size, 0, none⟩) 1 1 [.int .i64 (q : Int)] (by rfl) (Rd.of_block (cs := #[.int .i64 (q : Int)]) (heap_alloc_new _ _) rfl) (by intro x hx; simp at hx; subst hx; rfl) (by unfold maxLen; omega) (by omega) (by have := hb3.size; (try simp at this); simp <;> omega) ?_; intro A6 c6 w6 ho6 hg6 hor6; have Z6 := hg6.size)
                refine hK.out _ _ ?_ (fun hHeld => ?_)
                · (try dsimp only); first | done | trivial
                clear hK K
                try simp only [Act.put, List.setIfInBounds_toArray, List.set_cons_zero, List.set_cons_succ, List.getElem_toArray, List.getElem_cons_succ, List.getElem_cons_zero]
                refine wpAnyH_ready (rs := [10]) (by kernel_rfl) (by simp) ?_
                refine AllReadyH.cons rfl (fun K hK => ?_) AllReadyH.nil
                have b3 : Below w2.heap.size w2 w3 := (below_drewN hb _).trans (hb3.mono (by simp; omega))
                have r6 : ∀ (A : Option Addr), (k < q → A = some ⟨g9, k, none⟩) → Rd w6 w6.heap.size 1 A (q - k) ((intsRow acc).drop k) := fun A hA => ((((Rd.below (Rd.drewN0 (HRD.out A hA) _) hb3 (Nat.le_refl _)).alloc z3 _)).grown hg6 (by have := z3; simp <;> omega) (fun g hg => (show wr.heap.size ≤ g from (World.ownsRow.lt O3.out g hg).1))).more (by have := z3; (try simp at Z6); omega)
                have b6 : Below w2.heap.size w2 w6 := (b3.alloc b3.size _).grown hg6 (by have := b3.size; simp <;> omega) (fun g hg => Nat.le_trans hsz (show wr.heap.size ≤ g from (World.ownsRow.lt O3.out g hg).1))
                (refine step_append_sl _ (by rfl) (.tmp 49) (.tmp 52) _ (by rfl) _ 2 j0 _ 1 8 Try.underlying38 hj hy0 hy1 hy2 rfl (by omega) _ (k + 1) ((intsRow acc).take k ++ [.int .i64 (q : Int)]) (by rfl) ho6 _ 0 _ [] (by rfl) Rd.none_ (fun u hu => by cases hu) (by unfold maxLen; omega) (by omega) (by have := hb3.size; (try simp at this); (try simp at Z6); simp <;> omega) ?_; intro A7 c7 w7 ho7 hg7 hor7)
                refine hK.out _ _ ?_ (fun hHeld => ?_)
                · (try dsimp only); first | done | trivial
                clear hK K
                try simp only [Act.put, List.setIfInBounds_toArray, List.set_cons_zero, List.set_cons_succ, List.getElem_toArray, List.getElem_cons_succ, List.getElem_cons_zero]
                refine wpAnyH_take (i := 11) (v := ?_) rfl (by kernel_rfl) (by kernel_rfl) (by kernel_rfl) (fun _ _ _ h => h) (Or.inl ⟨by rfl, ?_⟩) (by assumption) ?_
                rotate_left
                · (intro w2 hSw; (try dsimp only at hSw); go_simp) <;> with_reducible rfl
                try simp only [Act.put, List.setIfInBounds_toArray, List.set_cons_zero, List.set_cons_succ, List.getElem_toArray, List.getElem_cons_succ, List.getElem_cons_zero]
                refine wpAnyH_done (by kernel_rfl) ?_ _
                have h6 : k + 1 + 0 = q + 1 := by omega
                rw [h6] at ho7
                have O7 := Lib.hid ho7
                have b7 : Below w2.heap.size w2 w7 := b6.grown hg7 b6.size (fun g hg => Nat.le_trans hsz (by have := (World.ownsRow.lt ho6 g hg).1; first | exact this | (rw [World.size_alloc] at this; exact Nat.le_of_succ_le this)))
                obtain ⟨g7, cc, hv7, _, hg7lt⟩ := own_form O7.out (by omega)
                injection hv7 with hA7 hn7 hc7'
                subst hA7
                clear hn7 hc7' cc ho7 hor7 hg7 ho6 hor6 hg6 r6
                go_wp2
                try rw [h6]
                go_roundw
                case rel =>
                  refine ⟨q + 1, insAt acc k q, g7, c7, by omega, by go_num, rfl, by rw [orderBy, ← Hacc.out, Hpos.out], ?_, b7⟩
                  have h := O7.out
                  have h2 : ((intsRow acc).take k ++ [.int .i64 (q : Int)]) ++ [] = intsRow (insAt acc k q) := by rw [← intsRow_insAt, List.drop_of_length_le (l := intsRow acc) (by rw [intsRow_len]; omega)]
                  rw [h2] at h
                  first | exact own_base h hsz | exact own_base h (by simp <;> omega)
                case measure => simp [intOf]; omega
              · skip
                try dsimp only [List.getElem_toArray, List.getElem_cons_succ, List.getElem_cons_zero]
                go_simp
                refine hK.out _ _ ?_ (fun hHeld => ?_)
                · (try dsimp only); first | done | trivial
                clear hK K
                try simp only [Act.put, List.setIfInBounds_toArray, List.set_cons_zero, List.set_cons_succ, List.getElem_toArray, List.getElem_cons_succ, List.getElem_cons_zero]
                refine wpAnyH_ready (rs := [3]) (by kernel_rfl) (by simp) ?_
                refine AllReadyH.cons rfl (fun K hK => ?_) AllReadyH.nil
                try dsimp only [List.getElem_toArray, List.getElem_cons_succ, List.getElem_cons_zero]
                go_simp
                refine (specOwn_any _ (acc.take k) _ (by rw [show (acc.take k).length = k by rw [List.length_take]; omega, show intsRow (acc.take k) = (intsRow acc).take k by simp [intsRow, List.map_take]]; exact own_take ((own_drewN Ob.out _).alloc _) hk) (by rw [List.length_take]; omega)).mono ?_
                rw [show (acc.take k).length = k by rw [List.length_take]; omega, show intsRow (acc.take k) = (intsRow acc).take k by simp [intsRow, List.map_take]]
                rintro e w3 ⟨y3, rfl, ho3, hb3⟩
                have z3 : wr.heap.size ≤ w3.heap.size := by have := hb3.size; simp at this; omega
                obtain ⟨A3, c3, rfl, _, _⟩ := own_slice ho3
                have O3 := Lib.hid ho3
                clear ho3
                go_wp2_with fail
                refine hK.out _ _ ?_ (fun hHeld => ?_)
                · (try dsimp only); first | done | trivial
                clear hK K
                try simp only [Act.put, List.setIfInBounds_toArray, List.set_cons_zero, List.set_cons_succ, List.getElem_toArray, List.getElem_cons_succ, List.getElem_cons_zero]
                refine wpAnyH_ready (rs := [6]) (by kernel_rfl) (by simp) ?_
                refine AllReadyH.cons rfl (fun K hK => ?_) AllReadyH.nil
                (refine step_append_sl _ (by rfl) (.tmp 46) (.tmp 48) _ (by rfl) _ 2 j0 _ 1 8 Try.underlying38 hj hy0 hy1 hy2 rfl (by omega) _ k ((intsRow acc).take k) (by rfl) (O3.out) (some ⟨wr.heap.size, 0, none⟩) 1 1 [.int .i64 (q : Int)] (by rfl) (Rd.of_block (cs := #[.int .i64 (q : Int)]) ((hb3.block _ (by simp)).trans (heap_alloc_new _ _)) rfl) (by intro x hx; simp at hx; subst hx; rfl) (by unfold maxLen; omega) (by omega) (by have := hb3.size; (try simp at this); simp <;> omega) ?_; intro A6 c6 w6 ho6 hg6 hor6; have Z6 := hg6.size)
                refine hK.out _ _ ?_ (fun hHeld => ?_)
                · (try dsimp only); first | done | trivial
                clear hK K
                try simp only [Act.put, List.setIfInBounds_toArray, List.set_cons_zero, List.set_cons_succ, List.getElem_toArray, List.getElem_cons_succ, List.getElem_cons_zero]
                refine wpAnyH_ready (rs := [10]) (by kernel_rfl) (by simp) ?_
                refine AllReadyH.cons rfl (fun K hK => ?_) AllReadyH.nil
                have b3 : Below w2.heap.size w2 w3 := ((below_drewN hb _).alloc (by simp; omega) _).trans (hb3.mono (by simp; omega))
                have r6 : ∀ (A : Option Addr), (k < q → A = some ⟨g9, k, none⟩) → Rd w6 w6.heap.size 1 A (q - k) ((intsRow acc).drop k) := fun A hA => (((Rd.below (Rd.alloc (Rd.drewN0 (HRD.out A hA) _) (Nat.le_refl _) _) hb3 (by rw [World.size_alloc]; exact Nat.le_succ _))).grown hg6 (by have := z3; simp <;> omega) (fun g hg => (by have h := (World.ownsRow.lt O3.out g hg).1; rw [World.size_alloc] at h; exact Nat.le_of_succ_le h))).more (by have := z3; (try simp at Z6); omega)
                have b6 : Below w2.heap.size w2 w6 := b3.grown hg6 b3.size (fun g hg => Nat.le_trans hsz (by have h := (World.ownsRow.lt O3.out g hg).1; rw [World.size_alloc] at h; exact Nat.le_of_succ_le h))
                (refine step_append_sl _ (by rfl) (.tmp 49) (.tmp 52) _ (by rfl) _ 2 j0 _ 1 8 Try.underlying38 hj hy0 hy1 hy2 rfl (by omega) _ (k + 1) ((intsRow acc).take k ++ [.int .i64 (q : Int)]) (by rfl) ho6 _ 0 _ [] (by rfl) Rd.none_ (fun u hu => by cases hu) (by unfold maxLen; omega) (by omega) (by have := hb3.size; (try simp at this); (try simp at Z6); simp <;> omega) ?_; intro A7 c7 w7 ho7 hg7 hor7)
                refine hK.out _ _ ?_ (fun hHeld => ?_)
                · (try dsimp only); first | done | trivial
                clear hK K
                try simp only [Act.put, List.setIfInBounds_toArray, List.set_cons_zero, List.set_cons_succ, List.getElem_toArray, List.getElem_cons_succ, List.getElem_cons_zero]
                refine wpAnyH_take (i := 11) (v := ?_) rfl (by kernel_rfl) (by kernel_rfl) (by kernel_rfl) (fun _ _ _ h => h) (Or.inl ⟨by rfl, ?_⟩) (by assumption) ?_
                rotate_left
                · (intro w2 hSw; (try dsimp only at hSw); go_simp) <;> with_reducible rfl
                try simp only [Act.put, List.setIfInBounds_toArray, List.set_cons_zero, List.set_cons_succ, List.getElem_toArray, List.getElem_cons_succ, List.getElem_cons_zero]
                refine wpAnyH_done (by kernel_rfl) ?_ _
                have h6 : k + 1 + 0 = q + 1 := by omega
                rw [h6] at ho7
                have O7 := Lib.hid ho7
                have b7 : Below w2.heap.size w2 w7 := b6.grown hg7 b6.size (fun g hg => Nat.le_trans hsz (by have := (World.ownsRow.lt ho6 g hg).1; first | exact this | (rw [World.size_alloc] at this; exact Nat.le_of_succ_le this)))
                obtain ⟨g7, cc, hv7, _, hg7lt⟩ := own_form O7.out (by omega)
                injection hv7 with hA7 hn7 hc7'
                subst hA7
                clear hn7 hc7' cc ho7 hor7 hg7 ho6 hor6 hg6 r6
                go_wp2
                try rw [h6]
                go_roundw
                case rel =>
                  refine ⟨q + 1, insAt acc k q, g7, c7, by omega, by go_num, rfl, by rw [orderBy, ← Hacc.out, Hpos.out], ?_, b7⟩
                  have h := O7.out
                  have h2 : ((intsRow acc).take k ++ [.int .i64 (q : Int)]) ++ [] = intsRow (insAt acc k q) := by rw [← intsRow_insAt, List.drop_of_length_le (l := intsRow acc) (by rw [intsRow_len]; omega)]
                  rw [h2] at h
                  first | exact own_base h hsz | exact own_base h (by simp <;> omega)
                case measure => simp [intOf]; omega
            · skip
              go_wp2
              refine wp_region_held_drew (S := (fun _ => True)) (by kernel_rfl) ?_ (fun hHeld => ?_)
              · (try dsimp only); first | done | trivial
              refine wpAnyH_take (i := 0) (v := ?_) rfl (by kernel_rfl) (by kernel_rfl) (by kernel_rfl) (fun _ _ _ h => h) (Or.inl ⟨by rfl, ?_⟩) (by assumption) ?_
              rotate_left
              · (intro w2 hSw; (try dsimp only at hSw); go_simp) <;> with_reducible rfl
              try simp only [Act.put, List.setIfInBounds_toArray, List.set_cons_zero, List.set_cons_succ, List.getElem_toArray, List.getElem_cons_succ, List.getElem_cons_zero]
              refine wpAnyH_take (i := 1) (v := ?_) rfl (by kernel_rfl) (by kernel_rfl) (by kernel_rfl) (fun _ _ _ h => h) (Or.inl ⟨by rfl, ?_⟩) (by assumption) ?_
              rotate_left
              · (intro w2 hSw; (try dsimp only at hSw); go_simp) <;> with_reducible rfl
              try simp only [Act.put, List.setIfInBounds_toArray, List.set_cons_zero, List.set_cons_succ, List.getElem_toArray, List.getElem_cons_succ, List.getElem_cons_zero]
              refine wpAnyH_take (i := 2) (v := ?_) rfl (by kernel_rfl) (by kernel_rfl) (by kernel_rfl) (fun _ _ _ h => h) (Or.inl ⟨by rfl, ?_⟩) (by assumption) ?_
              rotate_left
              · (intro w2 hSw; (try dsimp only at hSw); go_simp) <;> with_reducible rfl
              try simp only [Act.put, List.setIfInBounds_toArray, List.set_cons_zero, List.set_cons_succ, List.getElem_toArray, List.getElem_cons_succ, List.getElem_cons_zero]
              refine wpAnyH_take (i := 4) (v := ?_) rfl (by kernel_rfl) (by kernel_rfl) (by kernel_rfl) (fun _ _ _ h => h) (Or.inl ⟨by rfl, ?_⟩) (by assumption) ?_
              rotate_left
              · (intro w2 hSw; (try dsimp only at hSw); go_simp) <;> with_reducible rfl
              try simp only [Act.put, List.setIfInBounds_toArray, List.set_cons_zero, List.set_cons_succ, List.getElem_toArray, List.getElem_cons_succ, List.getElem_cons_zero]
              refine wpAnyH_take (i := 7) (v := ?_) rfl (by kernel_rfl) (by kernel_rfl) (by kernel_rfl) (fun _ _ _ h => h) (Or.inl ⟨by rfl, ?_⟩) (by assumption) ?_
              rotate_left
              · (intro w2 hSw; (try dsimp only at hSw); go_simp) <;> with_reducible rfl
              try simp only [Act.put, List.setIfInBounds_toArray, List.set_cons_zero, List.set_cons_succ, List.getElem_toArray, List.getElem_cons_succ, List.getElem_cons_zero]
              refine wpAnyH_take (i := 8) (v := ?_) rfl (by kernel_rfl) (by kernel_rfl) (by kernel_rfl) (fun _ _ _ h => h) (Or.inl ⟨by rfl, ?_⟩) (by assumption) ?_
              rotate_left
              · (intro w2 hSw; (try dsimp only at hSw); go_simp) <;> with_reducible rfl
              try simp only [Act.put, List.setIfInBounds_toArray, List.set_cons_zero, List.set_cons_succ, List.getElem_toArray, List.getElem_cons_succ, List.getElem_cons_zero]
              refine wpAnyH_take (i := 9) (v := ?_) rfl (by kernel_rfl) (by kernel_rfl) (by kernel_rfl) (fun _ _ _ h => h) (Or.inl ⟨by rfl, ?_⟩) (by assumption) ?_
              rotate_left
              · (intro w2 hSw; (try dsimp only at hSw); go_simp) <;> with_reducible rfl
              try simp only [Act.put, List.setIfInBounds_toArray, List.set_cons_zero, List.set_cons_succ, List.getElem_toArray, List.getElem_cons_succ, List.getElem_cons_zero]
              refine wpAnyH_ready (rs := [3, 5]) (by kernel_rfl) (by simp) ?_
              refine (AllReadyH.cons rfl (fun K hK => ?_) (AllReadyH.cons rfl (fun K hK => ?_) AllReadyH.nil))
              · skip
                try dsimp only [List.getElem_toArray, List.getElem_cons_succ, List.getElem_cons_zero]
                go_simp
                refine (specOwn_any _ (acc.take k) _ (by rw [show (acc.take k).length = k by rw [List.length_take]; omega, show intsRow (acc.take k) = (intsRow acc).take k by simp [intsRow, List.map_take]]; exact own_take (own_drewN Ob.out _) hk) (by rw [List.length_take]; omega)).mono ?_
                rw [show (acc.take k).length = k by rw [List.length_take]; omega, show intsRow (acc.take k) = (intsRow acc).take k by simp [intsRow, List.map_take]]
                rintro e w3 ⟨y3, rfl, ho3, hb3⟩
                have z3 : wr.heap.size ≤ w3.heap.size := by have := hb3.size; simp at this; omega
                obtain ⟨A3, c3, rfl, _, _⟩ := own_slice ho3
                have O3 := Lib.hid ho3
                clear ho3
                go_wp2_with fail
                refine hK.out _ _ ?_ (fun hHeld => ?_)
                · (try dsimp only); first | done | trivial
                clear hK K
                try simp only [Act.put, List.setIfInBounds_toArray, List.set_cons_zero, List.set_cons_succ, List.getElem_toArray, List.getElem_cons_succ, List.getElem_cons_zero]
                refine wpAnyH_ready (rs := [5]) (by kernel_rfl) (by simp) ?_
                refine AllReadyH.cons rfl (fun K hK => ?_) AllReadyH.nil
                try dsimp only [List.getElem_toArray, List.getElem_cons_succ, List.getElem_cons_zero]
                go_simp
                refine hK.out _ _ ?_ (fun hHeld => ?_)
                · (try dsimp only); first | done | trivial
                clear hK K
                try simp only [Act.put, List.setIfInBounds_toArray, List.set_cons_zero, List.set_cons_succ, List.getElem_toArray, List.getElem_cons_succ, List.getElem_cons_zero]
                refine wpAnyH_ready (rs := [6]) (by kernel_rfl) (by simp) ?_
                refine AllReadyH.cons rfl (fun K hK => ?_) AllReadyH.nil
                (refine step_append_sl _ (by rfl) (.tmp 46) (.tmp 48) _ (by rfl) _ 2 j0 _ 1 8 Try.underlying38 hj hy0 hy1 hy2 rfl (by omega) _ k ((intsRow acc).take k) (by rfl) (O3.out.alloc _) (some ⟨w3.heap.size, 0, none⟩) 1 1 [.int .i64 (q : Int)] (by rfl) (Rd.of_block (cs := #[.int .i64 (q : Int)]) (heap_alloc_new _ _) rfl) (by intro x hx; simp at hx; subst hx; rfl) (by unfold maxLen; omega) (by omega) (by have := hb3.size; (try simp at this); simp <;> omega) ?_; intro A6 c6 w6 ho6 hg6 hor6; have Z6 := hg6.size)
                refine hK.out _ _ ?_ (fun hHeld => ?_)
                · (try dsimp only); first | done | trivial
                clear hK K
                try simp only [Act.put, List.setIfInBounds_toArray, List.set_cons_zero, List.set_cons_succ, List.getElem_toArray, List.getElem_cons_succ, List.getElem_cons_zero]
                refine wpAnyH_ready (rs := [10]) (by kernel_rfl) (by simp) ?_
                refine AllReadyH.cons rfl (fun K hK => ?_) AllReadyH.nil
                have b3 : Below w2.heap.size w2 w3 := (below_drewN hb _).trans (hb3.mono (by simp; omega))
                have r6 : ∀ (A : Option Addr), (k < q → A = some ⟨g9, k, none⟩) → Rd w6 w6.heap.size 1 A (q - k) ((intsRow acc).drop k) := fun A hA => ((((Rd.below (Rd.drewN0 (HRD.out A hA) _) hb3 (Nat.le_refl _)).alloc z3 _)).grown hg6 (by have := z3; simp <;> omega) (fun g hg => (show wr.heap.size ≤ g from (World.ownsRow.lt O3.out g hg).1))).more (by have := z3; (try simp at Z6); omega)
                have b6 : Below w2.heap.size w2 w6 := (b3.alloc b3.size _).grown hg6 (by have := b3.size; simp <;> omega) (fun g hg => Nat.le_trans hsz (show wr.heap.size ≤ g from (World.ownsRow.lt O3.out g hg).1))
                (refine step_append_sl _ (by rfl) (.tmp 49) (.tmp 52) _ (by rfl) _ 2 j0 _ 1 8 Try.underlying38 hj hy0 hy1 hy2 rfl (by omega) _ (k + 1) ((intsRow acc).take k ++ [.int .i64 (q : Int)]) (by rfl) ho6 _ (q - k) _ ((intsRow acc).drop k) (by rfl) (by exact r6 _ (fun h => by first | rfl | exact if_neg (by omega) | (exfalso; omega))) (fun u hu => intsRow_one acc u (List.mem_of_mem_drop hu)) (by unfold maxLen; omega) (by omega) (by have := hb3.size; (try simp at this); (try simp at Z6); simp <;> omega) ?_; intro A7 c7 w7 ho7 hg7 hor7)
                refine hK.out _ _ ?_ (fun hHeld => ?_)
                · (try dsimp only); first | done | trivial
                clear hK K
                try simp only [Act.put, List.setIfInBounds_toArray, List.set_cons_zero, List.set_cons_succ, List.getElem_toArray, List.getElem_cons_succ, List.getElem_cons_zero]
                refine wpAnyH_take (i := 11) (v := ?_) rfl (by kernel_rfl) (by kernel_rfl) (by kernel_rfl) (fun _ _ _ h => h) (Or.inl ⟨by rfl, ?_⟩) (by assumption) ?_
                rotate_left
                · (intro w2 hSw; (try dsimp only at hSw); go_simp) <;> with_reducible rfl
                try simp only [Act.put, List.setIfInBounds_toArray, List.set_cons_zero, List.set_cons_succ, List.getElem_toArray, List.getElem_cons_succ, List.getElem_cons_zero]
                refine wpAnyH_done (by kernel_rfl) ?_ _
                have h6 : k + 1 + (q - k) = q + 1 := by omega
                rw [h6] at ho7
                have O7 := Lib.hid ho7
                have b7 : Below w2.heap.size w2 w7 := b6.grown hg7 b6.size (fun g hg => Nat.le_trans hsz (by have := (World.ownsRow.lt ho6 g hg).1; first | exact this | (rw [World.size_alloc] at this; exact Nat.le_of_succ_le this)))
                obtain ⟨g7, cc, hv7, _, hg7lt⟩ := own_form O7.out (by omega)
                injection hv7 with hA7 hn7 hc7'
                subst hA7
                clear hn7 hc7' cc ho7 hor7 hg7 ho6 hor6 hg6 r6
                go_wp2
                try rw [h6]
                go_roundw
                case rel =>
                  refine ⟨q + 1, insAt acc k q, g7, c7, by omega, by go_num, rfl, by rw [orderBy, ← Hacc.out, Hpos.out], ?_, b7⟩
                  have h := O7.out
                  rw [intsRow_insAt] at h
                  first | exact own_base h hsz | exact own_base h (by simp <;> omega)
                case measure => simp [intOf]; omega
              · skip
                try dsimp only [List.getElem_toArray, List.getElem_cons_succ, List.getElem_cons_zero]
                go_simp
                refine hK.out _ _ ?_ (fun hHeld => ?_)
                · (try dsimp only); first | done | trivial
                clear hK K
                try simp only [Act.put, List.setIfInBounds_toArray, List.set_cons_zero, List.set_cons_succ, List.getElem_toArray, List.getElem_cons_succ, List.getElem_cons_zero]
                refine wpAnyH_ready (rs := [3]) (by kernel_rfl) (by simp) ?_
                refine AllReadyH.cons rfl (fun K hK => ?_) AllReadyH.nil
                try dsimp only [List.getElem_toArray, List.getElem_cons_succ, List.getElem_cons_zero]
                go_simp
                refine (specOwn_any _ (acc.take k) _ (by rw [show (acc.take k).length = k by rw [List.length_take]; omega, show intsRow (acc.take k) = (intsRow acc).take k by simp [intsRow, List.map_take]]; exact own_take ((own_drewN Ob.out _).alloc _) hk) (by rw [List.length_take]; omega)).mono ?_
                rw [show (acc.take k).length = k by rw [List.length_take]; omega, show intsRow (acc.take k) = (intsRow acc).take k by simp [intsRow, List.map_take]]
                rintro e w3 ⟨y3, rfl, ho3, hb3⟩
                have z3 : wr.heap.size ≤ w3.heap.size := by have := hb3.size; simp at this; omega
                obtain ⟨A3, c3, rfl, _, _⟩ := own_slice ho3
                have O3 := Lib.hid ho3
                clear ho3
                go_wp2_with fail
                refine hK.out _ _ ?_ (fun hHeld => ?_)
                · (try dsimp only); first | done | trivial
                clear hK K
                try simp only [Act.put, List.setIfInBounds_toArray, List.set_cons_zero, List.set_cons_succ, List.getElem_toArray, List.getElem_cons_succ, List.getElem_cons_zero]
                refine wpAnyH_ready (rs := [6]) (by kernel_rfl) (by simp) ?_
                refine AllReadyH.cons rfl (fun K hK => ?_) AllReadyH.nil
                (refine step_append_sl _ (by rfl) (.tmp 46) (.tmp 48) _ (by rfl) _ 2 j0 _ 1 8 Try.underlying38 hj hy0 hy1 hy2 rfl (by omega) _ k ((intsRow acc).take k) (by rfl) (O3.out) (some ⟨wr.heap.size, 0, none⟩) 1 1 [.int .i64 (q : Int)] (by rfl) (Rd.of_block (cs := #[.int .i64 (q : Int)]) ((hb3.block _ (by simp)).trans (heap_alloc_new _ _)) rfl) (by intro x hx; simp at hx; subst hx; rfl) (by unfold maxLen; omega) (by omega) (by have := hb3.size; (try simp at this); simp <;> omega) ?_; intro A6 c6 w6 ho6 hg6 hor6; have Z6 := hg6.size)
                refine hK.out _ _ ?_ (fun hHeld => ?_)
                · (try dsimp only); first | done | trivial
                clear hK K
                try simp only [Act.put, List.setIfInBounds_toArray, List.set_cons_zero, List.set_cons_succ, List.getElem_toArray, List.getElem_cons_succ, List.getElem_cons_zero]
                refine wpAnyH_ready (rs := [10]) (by kernel_rfl) (by simp) ?_
                refine AllReadyH.cons rfl (fun K hK => ?_) AllReadyH.nil
                have b3 : Below w2.heap.size w2 w3 := ((below_drewN hb _).alloc (by simp; omega) _).trans (hb3.mono (by simp; omega))
                have r6 : ∀ (A : Option Addr), (k < q → A = some ⟨g9, k, none⟩) → Rd w6 w6.heap.size 1 A (q - k) ((intsRow acc).drop k) := fun A hA => (((Rd.below (Rd.alloc (Rd.drewN0 (HRD.out A hA) _) (Nat.le_refl _) _) hb3 (by rw [World.size_alloc]; exact Nat.le_succ _))).grown hg6 (by have := z3; simp <;> omega) (fun g hg => (by have h := (World.ownsRow.lt O3.out g hg).1; rw [World.size_alloc] at h; exact Nat.le_of_succ_le h))).more (by have := z3; (try simp at Z6); omega)
                have b6 : Below w2.heap.size w2 w6 := b3.grown hg6 b3.size (fun g hg => Nat.le_trans hsz (by have h := (World.ownsRow.lt O3.out g hg).1; rw [World.size_alloc] at h; exact Nat.le_of_succ_le h))
                (refine step_append_sl _ (by rfl) (.tmp 49) (.tmp 52) _ (by rfl) _ 2 j0 _ 1 8 Try.underlying38 hj hy0 hy1 hy2 rfl (by omega) _ (k + 1) ((intsRow acc).take k ++ [.int .i64 (q : Int)]) (by rfl) ho6 _ (q - k) _ ((intsRow acc).drop k) (by rfl) (by exact r6 _ (fun h => by first | rfl | exact if_neg (by omega) | (exfalso; omega))) (fun u hu => intsRow_one acc u (List.mem_of_mem_drop hu)) (by unfold maxLen; omega) (by omega) (by have := hb3.size; (try simp at this); (try simp at Z6); simp <;> omega) ?_; intro A7 c7 w7 ho7 hg7 hor7)
                refine hK.out _ _ ?_ (fun hHeld => ?_)
                · (try dsimp only); first | done | trivial
                clear hK K
                try simp only [Act.put, List.setIfInBounds_toArray, List.set_cons_zero, List.set_cons_succ, List.getElem_toArray, List.getElem_cons_succ, List.getElem_cons_zero]
                refine wpAnyH_take (i := 11) (v := ?_) rfl (by kernel_rfl) (by kernel_rfl) (by kernel_rfl) (fun _ _ _ h => h) (Or.inl ⟨by rfl, ?_⟩) (by assumption) ?_
                rotate_left
                · (intro w2 hSw; (try dsimp only at hSw); go_simp) <;> with_reducible rfl
                try simp only [Act.put, List.setIfInBounds_toArray, List.set_cons_zero, List.set_cons_succ, List.getElem_toArray, List.getElem_cons_succ, List.getElem_cons_zero]
                refine wpAnyH_done (by kernel_rfl) ?_ _
                have h6 : k + 1 + (q - k) = q + 1 := by omega
                rw [h6] at ho7
                have O7 := Lib.hid ho7
                have b7 : Below w2.heap.size w2 w7 := b6.grown hg7 b6.size (fun g hg => Nat.le_trans hsz (by have := (World.ownsRow.lt ho6 g hg).1; first | exact this | (rw [World.size_alloc] at this; exact Nat.le_of_succ_le this)))
                obtain ⟨g7, cc, hv7, _, hg7lt⟩ := own_form O7.out (by omega)
                injection hv7 with hA7 hn7 hc7'
                subst hA7
                clear hn7 hc7' cc ho7 hor7 hg7 ho6 hor6 hg6 r6
                go_wp2
                try rw [h6]
                go_roundw
                case rel =>
                  refine ⟨q + 1, insAt acc k q, g7, c7, by omega, by go_num, rfl, by rw [orderBy, ← Hacc.out, Hpos.out], ?_, b7⟩
                  have h := O7.out
                  rw [intsRow_insAt] at h
                  first | exact own_base h hsz | exact own_base h (by simp <;> omega)
                case measure => simp [intOf]; omega
      · have hqL : q = L.length := by omega
        subst hqL
        have hD : acc = dueOrd L := Hacc.out
        have Os := Lib.hid (show wr.ownsRow w2.heap.size 2 1 (.slice (some ⟨g9, 0, none⟩) L.length co) (dueOrd L).length (intsRow (dueOrd L)) by rw [dueOrd_len, ← hD]; exact Ho.out)
        clear hD
        go_wp2_with fail
        refine (specLate_any wr L _ (dueOrd L) _ (Hv.out.below (hb2.trans (hb.mono hs2))) (by have := Sl.of_own Os.out; rw [dueOrd_len] at this; rw [dueOrd_len]; exact this) h1 (dueOrd_ok L)).mono ?_
        rintro e w4 ⟨y4, rfl, ho4, hb4⟩
        obtain ⟨A4, c4, rfl, _, _⟩ := own_slice ho4
        have O4 := Lib.hid ho4
        have b4 : Below w.heap.size w w4 := (hb2.trans (hb.mono hs2)).trans (hb4.mono (Nat.le_trans hs2 hb.size))
        have hDl : (lateOf L (dueOrd L)).length = L.length := lateOf_len _ _
        clear ho4
        go_wp2
        go_loop [8, 10] (fun z i => ∃ (k : Nat) (m : Int), k ≤ L.length ∧ i = .int .i64 k ∧ z = .int .i64 m ∧ m = worstOf ((lateOf L (dueOrd L)).take k)) (fun _ i => L.length - (intOf i).toNat)
        case atStart => exact ⟨0, 0, Nat.zero_le _, rfl, rfl, rfl⟩
        case round =>
          obtain ⟨k, m, hk, rfl, rfl, hm⟩ := hrel
          have Hm := Lib.hid hm
          clear hm
          by_cases hlt2 : k < L.length
          · obtain ⟨g4, cc, hv4, _, hg4lt⟩ := own_form O4.out (by omega)
            injection hv4 with hA4 hn4 hc4'
            subst hA4
            clear hn4 hc4' cc
            obtain ⟨_, hl4, hc4⟩ := own_caps O4.out
            unfold maxLen at hc4
            have d4 := (O4.out.cellAt k (by omega)).trans (intsRow_at (lateOf L (dueOrd L)) k (by omega))
            have E := Lib.hid (worst_take (lateOf L (dueOrd L)) (k := k) (by omega))
            have i1 : (0 : Int) ≤ (k : Int) := Int.natCast_nonneg _
            have i2 : (k : Int) < (L.length : Int) := by omega
            go_wp2
            go_round
            case rel => exact ⟨k + 1, _, by omega, by go_num, rfl, by rw [E.out, ← Hm.out]; (split <;> omega)⟩
            case measure => simp [intOf]; omega
          · have e : (lateOf L (dueOrd L)).take k = lateOf L (dueOrd L) := List.take_of_length_le (by omega)
            have H1 := Lib.hid (show duePlan L = (dueOrd L, m, 0) by rw [H.out, Hm.out, e])
            clear e
            go_wp2
            go_ret3
            exact RetSIC.ok H1.out (own_below Os.out hb4) rfl rfl hs2 b4

end Go.Proofs.Ytfkindkekjafnaa
