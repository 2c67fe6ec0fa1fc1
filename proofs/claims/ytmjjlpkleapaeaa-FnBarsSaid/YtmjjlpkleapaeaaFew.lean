/- The walk of packed. Printed by gen_few.py. -/
import Derived.Test.YtmjjlpkleapaeaaFewM
import Derived.IntWalk
import Derived.Deep.RegionHeld3
namespace Go.Proofs.Ytmjjlpkleapaeaa
open Go.RowKit

/-- What packed leaves: the answer, the row as it was. -/
def PackPost (base g c : Nat) (ns left : List Int) (w : World) (e : Ending) (w' : World) : Prop :=
  e = .returned (.bool (fits ns left)) ∧ w'.ownsRow base 2 1 (.slice (some ⟨g, 0, none⟩) left.length c) left.length (intsRow left) ∧ w.grownBy w' (some g)
theorem gb_drewN {a b : World} {row : Option Nat} (h : a.grownBy b row) (n : Nat) : a.grownBy (b.drewN n) row := ⟨h.os, h.tape, h.output, h.size, h.block⟩
/-- A slice that is read, its block not g. -/
def Off (g : Nat) (u : Value) (n : Nat) : Prop := 0 < n → u.ownBlock ≠ some g
theorem Sl.off {w w' : World} {size n g : Nat} {v : Value} {xs : List Value} (h : Sl w size v n xs) (ho : Off g v n) (hg : w.grownBy w' (some g)) : Sl w' size v n xs := by
  rcases Nat.eq_zero_or_pos n with h0 | h0
  · subst h0
    obtain ⟨A, c, rfl, h1, h2, h3, _⟩ := h
    exact ⟨A, c, rfl, h1, h2, h3, fun hn => absurd hn (by omega)⟩
  · exact h.grown hg (fun g' hg' => by injection hg' with hg'; subst hg'; exact ho h0)
/-- The rest of a slice. -/
theorem Sl.tail {w : World} {n : Int} {ns : List Int} {A : Option Addr} {c : Nat} (h : Sl w 1 (.slice A (ns.length + 1) c) (ns.length + 1) (intsRow (n :: ns))) {A' : Option Addr} {c' : Nat} (hA : 0 < ns.length → ∀ g o, A = some ⟨g, o, none⟩ → A' = some ⟨g, o + 1, none⟩) (hc : ns.length ≤ c') (hc' : c' ≤ maxLen) : Sl w 1 (.slice A' ns.length c') ns.length (intsRow ns) := by
  obtain ⟨A0, c0, hv, h1, h2, h3, h4⟩ := h
  injection hv with e1 _ e3
  subst e1; subst e3
  refine ⟨A', c', rfl, hc, hc', intsRow_len1 ns, fun hn => ?_⟩
  obtain ⟨g, o, rfl, hg, hc⟩ := h4 (by omega)
  refine ⟨g, o + 1, hA hn g o rfl, hg, fun j u hu => ?_⟩
  have := hc (j + 1) u (by simpa [intsRow] using hu)
  rwa [show o + 1 + j = o + (j + 1) by omega]

set_option maxHeartbeats 4000000 in
theorem packed_any (base g c : Nat) : ∀ (ns left : List Int) (u : Value) (w : World), Sl w 1 u ns.length (intsRow ns) → Off g u ns.length → w.ownsRow base 2 1 (.slice (some ⟨g, 0, none⟩) left.length c) left.length (intsRow left) →
    (∀ n ∈ ns, 0 ≤ n ∧ n ≤ 100000) → (∀ k, k < left.length → -10000000 ≤ intsAt left k ∧ intsAt left k ≤ 100000) → left.length ≤ 8 →
    Calls Try.prog 56 #[u, .slice (some ⟨g, 0, none⟩) left.length c] w (PackPost base g c ns left w) := by
  intro ns
  induction ns with
  | nil =>
    intro left u w hu ho hl _ _ _
    have H := Lib.hid (fits_nil left)
    have Hl := Lib.hid hl
    obtain ⟨A, cu, rfl, _, _, _⟩ := hu
    clear hl
    go_enter Try.func56, Try.ntmps56
    go_wp2
    go_ret
    exact ⟨retB H.out.symm, Hl.out, gb_refl _ _⟩
  | cons n ns ih =>
    intro left u w hu ho hl hn hb h8
    have Ih := Lib.hid ih
    have Hu := Lib.hid hu
    have Ho := Lib.hid ho
    have Hl := Lib.hid hl
    have hn1 := hn n (by simp)
    have Hn := Lib.hid (fun m hm => hn m (List.mem_cons_of_mem _ hm) : ∀ m ∈ ns, 0 ≤ m ∧ m ≤ 100000)
    have Hb := Lib.hid hb
    obtain ⟨n1, n2⟩ := hn1
    obtain ⟨A, cu, rfl, hcu, hcm, hr⟩ := hu
    unfold maxLen at hcm
    simp only [List.length_cons] at hcu
    have Hr := Lib.hid hr
    obtain ⟨_, hcc, hcx⟩ := own_caps hl
    unfold maxLen at hcx
    clear ih ho hl hn hb hr
    go_enter Try.func56, Try.ntmps56
    go_wp2
    go_loopw [12] (fun i wr => ∃ k : Nat, k ≤ left.length ∧ i = .int .i64 k ∧ (∀ j, j < k → n ≤ intsAt left j → fits ns (left.set j (intsAt left j - n)) = false) ∧ wr.ownsRow base 2 1 (.slice (some ⟨g, 0, none⟩) left.length c) left.length (intsRow left) ∧ w.grownBy wr (some g)) (fun i _ => left.length - (intOf i).toNat)
    case atStart => exact ⟨0, Nat.zero_le _, rfl, fun j h => absurd h (by omega), Hl.out, gb_refl _ _⟩
    case round =>
      obtain ⟨k, hk, rfl, hall, hl, hg⟩ := hrel
      have Hall := Lib.hid hall
      have Hk := Lib.hid hl
      have Hg := Lib.hid hg
      clear hall hl hg
      by_cases hlt : k < left.length
      · have e1 := (Hk.out.cellAt k (by omega)).trans (intsRow_at left k hlt)
        have f1 := Hk.out.frozenAt k
        have bk := Hb.out k hlt
        obtain ⟨b1, b2⟩ := bk
        have U := Hu.out.off Ho.out Hg.out
        obtain ⟨A', c', hv', _, _, hr'⟩ := U
        injection hv' with hA' _ hc'
        subst hA'
        subst hc'
        obtain ⟨gu, ou, rfl, hgu, e2⟩ := (show Rd wr wr.heap.size 1 A (n :: ns).length (intsRow (n :: ns)) from hr').ints (k := 0) (by simp)
        have e2' : wr.cell? ⟨gu, ou, none⟩ = some (.int .i64 n) := e2
        have hne : gu ≠ g := fun h => Ho.out (by simp) (by simp [Value.ownBlock, h])
        have i0 : (0 : Int) ≤ (k : Int) := Int.natCast_nonneg _
        have i1 : (k : Int) < (left.length : Int) := by omega
        have i2 : (0 : Int) < (ns.length : Int) + 1 := by omega
        clear e2 hr'
        by_cases hle : n ≤ intsAt left k
        · have t1 : decide (intsAt left k < n) = false := by simpa using hle
          have Hle := Lib.hid hle
          go_wp2
          go_quiet (fail)
          go_wp2
          have x3 := IntWalk.i64_in (intsAt left k - n) (by omega)
          refine wp_region_held_drew (S := (fun w' => w'.cell? ⟨gu, ou, none⟩ = some (.int .i64 n))) (by kernel_rfl) ?_ (fun hHeld => ?_)
          · (try dsimp only); first | assumption | go_keep | (rw [World.cell?_setCell_other _ _ _ _ (fun e => hne (by injection e with e1; exact e1.symm))]; assumption) | (rw [World.cell?_setCell_other _ _ _ _ (fun e => hne (by injection e with e1))]; assumption)
          refine wpAnyH_take (i := 0) (v := ?_) rfl (by kernel_rfl) (by kernel_rfl) (by kernel_rfl) (fun _ _ _ h => h) (Or.inl ⟨by rfl, ?_⟩) (by assumption) ?_
          rotate_left
          · (intro w hSw; (try dsimp only at hSw); go_simp) <;> with_reducible rfl
          try simp only [Act.put, List.setIfInBounds_toArray, List.set_cons_zero, List.set_cons_succ, List.getElem_toArray, List.getElem_cons_succ, List.getElem_cons_zero]
          refine wpAnyH_take (i := 1) (v := ?_) rfl (by kernel_rfl) (by kernel_rfl) (by kernel_rfl) (fun _ _ _ h => h) (Or.inl ⟨by rfl, ?_⟩) (by assumption) ?_
          rotate_left
          · (intro w hSw; (try dsimp only at hSw); go_simp) <;> with_reducible rfl
          try simp only [Act.put, List.setIfInBounds_toArray, List.set_cons_zero, List.set_cons_succ, List.getElem_toArray, List.getElem_cons_succ, List.getElem_cons_zero]
          refine wpAnyH_take (i := 2) (v := ?_) rfl (by kernel_rfl) (by kernel_rfl) (by kernel_rfl) (fun _ _ _ h => h) (Or.inl ⟨by rfl, ?_⟩) (by assumption) ?_
          rotate_left
          · (intro w hSw; (try dsimp only at hSw); go_simp) <;> with_reducible rfl
          try simp only [Act.put, List.setIfInBounds_toArray, List.set_cons_zero, List.set_cons_succ, List.getElem_toArray, List.getElem_cons_succ, List.getElem_cons_zero]
          refine wpAnyH_take (i := 4) (v := ?_) rfl (by kernel_rfl) (by kernel_rfl) (by kernel_rfl) (fun _ _ _ h => h) (Or.inl ⟨by rfl, ?_⟩) (by assumption) ?_
          rotate_left
          · (intro w hSw; (try dsimp only at hSw); go_simp) <;> with_reducible rfl
          try simp only [Act.put, List.setIfInBounds_toArray, List.set_cons_zero, List.set_cons_succ, List.getElem_toArray, List.getElem_cons_succ, List.getElem_cons_zero]
          refine wpAnyH_take (i := 5) (v := ?_) rfl (by kernel_rfl) (by kernel_rfl) (by kernel_rfl) (fun _ _ _ h => h) (Or.inl ⟨by rfl, ?_⟩) (by assumption) ?_
          rotate_left
          · (intro w hSw; (try dsimp only at hSw); go_simp) <;> with_reducible rfl
          try simp only [Act.put, List.setIfInBounds_toArray, List.set_cons_zero, List.set_cons_succ, List.getElem_toArray, List.getElem_cons_succ, List.getElem_cons_zero]
          refine wpAnyH_take (i := 6) (v := ?_) rfl (by kernel_rfl) (by kernel_rfl) (by kernel_rfl) (fun _ _ _ h => h) (Or.inl ⟨by rfl, ?_⟩) (by assumption) ?_
          rotate_left
          · (intro w hSw; (try dsimp only at hSw); go_simp) <;> with_reducible rfl
          try simp only [Act.put, List.setIfInBounds_toArray, List.set_cons_zero, List.set_cons_succ, List.getElem_toArray, List.getElem_cons_succ, List.getElem_cons_zero]
          refine wpAnyH_ready (rs := [3]) (by kernel_rfl) (by simp) ?_
          refine AllReadyH.cons rfl (fun K hK => ?_) AllReadyH.nil
          try dsimp only [List.getElem_toArray, List.getElem_cons_succ, List.getElem_cons_zero]
          go_simp
          refine hK.out _ _ ?_ (fun hHeld => ?_)
          · (try dsimp only); first | assumption | go_keep | (rw [World.cell?_setCell_other _ _ _ _ (fun e => hne (by injection e with e1; exact e1.symm))]; assumption) | (rw [World.cell?_setCell_other _ _ _ _ (fun e => hne (by injection e with e1))]; assumption)
          clear hK K
          try simp only [Act.put, List.setIfInBounds_toArray, List.set_cons_zero, List.set_cons_succ, List.getElem_toArray, List.getElem_cons_succ, List.getElem_cons_zero]
          refine wpAnyH_take (i := 7) (v := ?_) rfl (by kernel_rfl) (by kernel_rfl) (by kernel_rfl) (fun _ _ _ h => h) (Or.inl ⟨by rfl, ?_⟩) (by assumption) ?_
          rotate_left
          · (intro w hSw; (try dsimp only at hSw); go_simp) <;> with_reducible rfl
          try simp only [Act.put, List.setIfInBounds_toArray, List.set_cons_zero, List.set_cons_succ, List.getElem_toArray, List.getElem_cons_succ, List.getElem_cons_zero]
          refine wpAnyH_take (i := 8) (v := ?_) rfl (by kernel_rfl) (by kernel_rfl) (by kernel_rfl) (fun _ _ _ h => h) (Or.inl ⟨by rfl, ?_⟩) (by assumption) ?_
          rotate_left
          · (intro w hSw; (try dsimp only at hSw); go_simp) <;> with_reducible rfl
          try simp only [Act.put, List.setIfInBounds_toArray, List.set_cons_zero, List.set_cons_succ, List.getElem_toArray, List.getElem_cons_succ, List.getElem_cons_zero]
          refine wpAnyH_ready (rs := [9]) (by kernel_rfl) (by simp) ?_
          refine AllReadyH.cons rfl (fun K hK => ?_) AllReadyH.nil
          try dsimp only [List.getElem_toArray, List.getElem_cons_succ, List.getElem_cons_zero]
          go_simp
          refine hK.out _ _ ?_ (fun hHeld => ?_)
          · (try dsimp only); first | assumption | go_keep | (rw [World.cell?_setCell_other _ _ _ _ (fun e => hne (by injection e with e1; exact e1.symm))]; assumption) | (rw [World.cell?_setCell_other _ _ _ _ (fun e => hne (by injection e with e1))]; assumption)
          clear hK K
          try simp only [Act.put, List.setIfInBounds_toArray, List.set_cons_zero, List.set_cons_succ, List.getElem_toArray, List.getElem_cons_succ, List.getElem_cons_zero]
          refine wpAnyH_done (by kernel_rfl) ?_ _
          clear hHeld
          have Dl := Lib.hid (show (left.set k (intsAt left k - n)).length = left.length by simp)
          obtain ⟨L5, hL5⟩ : ∃ L5, L5 = left.set k (intsAt left k - n) := ⟨_, rfl⟩
          have h5l : L5.length = left.length := by rw [hL5]; exact Dl.out
          have O5 := Lib.hid (show World.ownsRow ((wr.drewN (nq + 1)).setCell ⟨g, k, none⟩ (.int .i64 (intsAt left k - n))) base 2 1 (.slice (some ⟨g, 0, none⟩) L5.length c) L5.length (intsRow L5) by
            rw [h5l, hL5]
            have h := ((own_drewN Hk.out (nq + 1)).stored k (.int .i64 (intsAt left k - n))).1
            rwa [intsRow_set] at h)
          have H5 := Lib.hid hL5
          have G5 := Lib.hid (show w.grownBy ((wr.drewN (nq + 1)).setCell ⟨g, k, none⟩ (.int .i64 (intsAt left k - n))) (some g) from gb_trans (gb_drewN Hg.out (nq + 1)) ((own_drewN Hk.out (nq + 1)).stored k (.int .i64 (intsAt left k - n))).2)
          obtain ⟨w5, hw5⟩ : ∃ w5, w5 = (wr.drewN (nq + 1)).setCell ⟨g, k, none⟩ (.int .i64 (intsAt left k - n)) := ⟨_, rfl⟩
          rw [← hw5] at O5 G5
          rw [← hw5]
          clear hw5 hL5 e1 e2' f1 x3
          have U5 := Lib.hid (Hu.out.off Ho.out G5.out)
          have c1 : (1 : Int) ≤ (ns.length : Int) + 1 := by omega
          have hb5 : ∀ j, j < L5.length → -10000000 ≤ intsAt L5 j ∧ intsAt L5 j ≤ 100000 := by
            intro j hj
            rw [H5.out, intsAt_set hlt]
            split
            · omega
            · exact Hb.out j (by omega)
          have I := fun (u : Value) (h1 : Sl w5 1 u ns.length (intsRow ns)) (h2 : Off g u ns.length) => Ih.out L5 u w5 h1 h2 O5.out Hn.out hb5 (by omega)
          simp only [h5l] at I
          have HI := Lib.hid I
          clear I hb5
          by_cases hcu1 : cu = 1
          case' pos => subst hcu1
          all_goals
            go_wp2_with fail
            refine (HI.out _ (by first | exact Sl.tail U5.out (fun h g' o' e => by injection e with e; injection e with e1 e2; subst e1; subst e2; first | rfl | (exfalso; omega)) (by omega) (by unfold maxLen; omega) | (rw [List.eq_nil_of_length_eq_zero (show ns.length = 0 by omega)]; exact ⟨_, _, rfl, Nat.le_refl _, by simp [maxLen], by simp [intsRow], fun h => absurd h (by simp)⟩)) (fun h => by simp [Value.ownBlock]; exact hne)).mono ?_
            rintro e w6 ⟨rfl, ho6, hg6⟩
            have O6 := Lib.hid ho6
            have G6 := Lib.hid (gb_trans G5.out hg6)
            clear ho6 hg6
            have V := Hu.out.off Ho.out G6.out
            obtain ⟨A', c', hv', _, _, hr'⟩ := V
            injection hv' with hA' _ hc'
            subst hA'
            subst hc'
            obtain ⟨gu', ou', hA2, hgu', e2⟩ := (show Rd w6 w6.heap.size 1 (some ⟨gu, ou, none⟩) (n :: ns).length (intsRow (n :: ns)) from hr').ints (k := 0) (by simp)
            injection hA2 with hA2
            injection hA2 with hA2 hA3
            subst hA2
            subst hA3
            have e2' : w6.cell? ⟨gu, ou, none⟩ = some (.int .i64 n) := e2
            clear e2 hr'
            have hlt5 : k < L5.length := by omega
            have e1 := (O6.out.cellAt k (by omega)).trans (intsRow_at L5 k hlt5)
            have f1 := O6.out.frozenAt k
            have x4 : intsAt L5 k = intsAt left k - n := by rw [H5.out, intsAt_set hlt, if_pos rfl]
            rw [x4] at e1
            have x3 := IntWalk.i64_in (intsAt left k) (by omega)
            go_wp2
            refine wp_region_held_drew (S := (fun w' => w'.cell? ⟨gu, ou, none⟩ = some (.int .i64 n))) (by kernel_rfl) ?_ (fun hHeld => ?_)
            · (try dsimp only); first | assumption | (refine (World.cell?_setCell_other _ _ _ _ (fun e => hne (by injection e with e1; first | exact e1 | exact e1.symm))).trans ?_; assumption)
            refine wpAnyH_take (i := 0) (v := ?_) rfl (by kernel_rfl) (by kernel_rfl) (by kernel_rfl) (fun _ _ _ h => h) (Or.inl ⟨by rfl, ?_⟩) (by assumption) ?_
            rotate_left
            · (intro w hSw; (try dsimp only at hSw); go_simp) <;> with_reducible rfl
            try simp only [Act.put, List.setIfInBounds_toArray, List.set_cons_zero, List.set_cons_succ, List.getElem_toArray, List.getElem_cons_succ, List.getElem_cons_zero]
            refine wpAnyH_take (i := 1) (v := ?_) rfl (by kernel_rfl) (by kernel_rfl) (by kernel_rfl) (fun _ _ _ h => h) (Or.inl ⟨by rfl, ?_⟩) (by assumption) ?_
            rotate_left
            · (intro w hSw; (try dsimp only at hSw); go_simp) <;> with_reducible rfl
            try simp only [Act.put, List.setIfInBounds_toArray, List.set_cons_zero, List.set_cons_succ, List.getElem_toArray, List.getElem_cons_succ, List.getElem_cons_zero]
            refine wpAnyH_take (i := 2) (v := ?_) rfl (by kernel_rfl) (by kernel_rfl) (by kernel_rfl) (fun _ _ _ h => h) (Or.inl ⟨by rfl, ?_⟩) (by assumption) ?_
            rotate_left
            · (intro w hSw; (try dsimp only at hSw); go_simp) <;> with_reducible rfl
            try simp only [Act.put, List.setIfInBounds_toArray, List.set_cons_zero, List.set_cons_succ, List.getElem_toArray, List.getElem_cons_succ, List.getElem_cons_zero]
            refine wpAnyH_take (i := 4) (v := ?_) rfl (by kernel_rfl) (by kernel_rfl) (by kernel_rfl) (fun _ _ _ h => h) (Or.inl ⟨by rfl, ?_⟩) (by assumption) ?_
            rotate_left
            · (intro w hSw; (try dsimp only at hSw); go_simp) <;> with_reducible rfl
            try simp only [Act.put, List.setIfInBounds_toArray, List.set_cons_zero, List.set_cons_succ, List.getElem_toArray, List.getElem_cons_succ, List.getElem_cons_zero]
            refine wpAnyH_take (i := 5) (v := ?_) rfl (by kernel_rfl) (by kernel_rfl) (by kernel_rfl) (fun _ _ _ h => h) (Or.inl ⟨by rfl, ?_⟩) (by assumption) ?_
            rotate_left
            · (intro w hSw; (try dsimp only at hSw); go_simp) <;> with_reducible rfl
            try simp only [Act.put, List.setIfInBounds_toArray, List.set_cons_zero, List.set_cons_succ, List.getElem_toArray, List.getElem_cons_succ, List.getElem_cons_zero]
            refine wpAnyH_take (i := 6) (v := ?_) rfl (by kernel_rfl) (by kernel_rfl) (by kernel_rfl) (fun _ _ _ h => h) (Or.inl ⟨by rfl, ?_⟩) (by assumption) ?_
            rotate_left
            · (intro w hSw; (try dsimp only at hSw); go_simp) <;> with_reducible rfl
            try simp only [Act.put, List.setIfInBounds_toArray, List.set_cons_zero, List.set_cons_succ, List.getElem_toArray, List.getElem_cons_succ, List.getElem_cons_zero]
            refine wpAnyH_ready (rs := [3]) (by kernel_rfl) (by simp) ?_
            refine AllReadyH.cons rfl (fun K hK => ?_) AllReadyH.nil
            try dsimp only [List.getElem_toArray, List.getElem_cons_succ, List.getElem_cons_zero]
            go_simp
            refine hK.out _ _ ?_ (fun hHeld => ?_)
            · (try dsimp only); first | assumption | (refine (World.cell?_setCell_other _ _ _ _ (fun e => hne (by injection e with e1; first | exact e1 | exact e1.symm))).trans ?_; assumption)
            clear hK K
            try simp only [Act.put, List.setIfInBounds_toArray, List.set_cons_zero, List.set_cons_succ, List.getElem_toArray, List.getElem_cons_succ, List.getElem_cons_zero]
            refine wpAnyH_take (i := 7) (v := ?_) rfl (by kernel_rfl) (by kernel_rfl) (by kernel_rfl) (fun _ _ _ h => h) (Or.inl ⟨by rfl, ?_⟩) (by assumption) ?_
            rotate_left
            · (intro w hSw; (try dsimp only at hSw); go_simp) <;> with_reducible rfl
            try simp only [Act.put, List.setIfInBounds_toArray, List.set_cons_zero, List.set_cons_succ, List.getElem_toArray, List.getElem_cons_succ, List.getElem_cons_zero]
            refine wpAnyH_take (i := 8) (v := ?_) rfl (by kernel_rfl) (by kernel_rfl) (by kernel_rfl) (fun _ _ _ h => h) (Or.inl ⟨by rfl, ?_⟩) (by assumption) ?_
            rotate_left
            · (intro w hSw; (try dsimp only at hSw); go_simp) <;> with_reducible rfl
            try simp only [Act.put, List.setIfInBounds_toArray, List.set_cons_zero, List.set_cons_succ, List.getElem_toArray, List.getElem_cons_succ, List.getElem_cons_zero]
            refine wpAnyH_ready (rs := [9]) (by kernel_rfl) (by simp) ?_
            refine AllReadyH.cons rfl (fun K hK => ?_) AllReadyH.nil
            try dsimp only [List.getElem_toArray, List.getElem_cons_succ, List.getElem_cons_zero]
            go_simp
            refine hK.out _ _ ?_ (fun hHeld => ?_)
            · (try dsimp only); first | assumption | (refine (World.cell?_setCell_other _ _ _ _ (fun e => hne (by injection e with e1; first | exact e1 | exact e1.symm))).trans ?_; assumption)
            clear hK K
            try simp only [Act.put, List.setIfInBounds_toArray, List.set_cons_zero, List.set_cons_succ, List.getElem_toArray, List.getElem_cons_succ, List.getElem_cons_zero]
            refine wpAnyH_done (by kernel_rfl) ?_ _
            clear hHeld
            have hback : L5.set k (intsAt left k) = left := by
              rw [H5.out, List.set_set]
              refine ints_ext (by simp) (fun i hi => ?_)
              rw [intsAt_set hlt]
              split
              · rename_i e; rw [e]
              · rfl
            have O7 := Lib.hid (show World.ownsRow ((w6.setCell ⟨g, k, none⟩ (.int .i64 (intsAt left k))).drew) base 2 1 (.slice (some ⟨g, 0, none⟩) left.length c) left.length (intsRow left) by
              have h := (O6.out.stored k (.int .i64 (intsAt left k))).1.drew
              rw [intsRow_set, hback, h5l] at h
              exact h)
            have G7 := Lib.hid (show w.grownBy ((w6.setCell ⟨g, k, none⟩ (.int .i64 (intsAt left k))).drew) (some g) from gb_drew (gb_trans G6.out (O6.out.stored k (.int .i64 (intsAt left k))).2))
            obtain ⟨w7, hw7⟩ : ∃ w7, w7 = (w6.setCell ⟨g, k, none⟩ (.int .i64 (intsAt left k))).drew := ⟨_, rfl⟩
            rw [← hw7] at O7 G7
            rw [← hw7]
            clear hw7 hback e1 e2' f1 x3 x4
            cases hf : fits ns L5
            · have HF := Lib.hid hf
              clear hf
              go_wp2
              go_roundw
              case rel => exact ⟨k + 1, by omega, by go_num, fun j hj h => by
                by_cases e : j = k
                · subst e; rw [← H5.out]; exact HF.out
                · exact Hall.out j (by omega) h, O7.out, G7.out⟩
              case measure => simp [intOf]; omega
            · have H := Lib.hid (fits_yes (ns := ns) hlt Hle.out (by rw [← H5.out]; exact hf))
              clear hf
              go_wp2
              go_ret
              exact ⟨retB H.out.symm, O7.out, G7.out⟩
        · have t1 : decide (intsAt left k < n) = true := by simpa using hle
          have Hle := Lib.hid (show ¬ n ≤ intsAt left k from hle)
          clear hle
          go_wp2
          go_quiet (fail)
          go_wp2
          go_roundw
          case rel => exact ⟨k + 1, by omega, by go_num, fun j hj h => by
            by_cases e : j = k
            · subst e; have h5 := Hle.out; omega
            · exact Hall.out j (by omega) h, own_drewN Hk.out _, gb_drewN Hg.out _⟩
          case measure => simp [intOf]; omega
      · have H := Lib.hid (fits_no (fun j hj => Hall.out j (by omega)))
        go_wp2
        go_ret
        exact ⟨retB H.out.symm, Hk.out, Hg.out⟩

end Go.Proofs.Ytmjjlpkleapaeaa
