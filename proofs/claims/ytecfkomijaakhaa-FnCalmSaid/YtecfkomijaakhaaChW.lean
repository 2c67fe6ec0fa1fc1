/- Chains: the order of two chains. Printed by gen_chw.py. -/
import Derived.Test.YtecfkomijaakhaaChO
import Derived.Test.YtecfkomijaakhaaRecN
namespace Go.Proofs.Ytecfkomijaakhaa
open Go.RowKit

def intN (c : List Nat) : List Int := c.map fun (i : Nat) => (i : Int)
theorem intN_len (c : List Nat) : (intN c).length = c.length := by simp [intN]
theorem intN_app (c d : List Nat) : intN (c ++ d) = intN c ++ intN d := by simp [intN]
def natAt (c : List Nat) (k : Nat) : Nat := c.getD k 0
theorem intN_at (c : List Nat) (k : Nat) : intsAt (intN c) k = natAt c k := by
  simp only [intsAt, intN, natAt, List.getD, List.getElem?_map]
  cases c[k]? <;> rfl
theorem natAt_lt {c : List Nat} {k : Nat} (h : k < c.length) : natAt c k = c[k] := by simp [natAt, List.getD, h]
theorem lex_step {a b : List Nat} {k : Nat} (ha : k < a.length) (hb : k < b.length) : lexL (a.drop k) (b.drop k) = if natAt a k = natAt b k then lexL (a.drop (k + 1)) (b.drop (k + 1)) else decide (natAt a k < natAt b k) := by
  rw [List.drop_eq_getElem_cons ha, List.drop_eq_getElem_cons hb, lexL, natAt_lt ha, natAt_lt hb]
theorem lex_end {a b : List Nat} {k : Nat} (ha : k ≤ a.length) (hb : k ≤ b.length) (h : ¬ (k < a.length ∧ k < b.length)) : lexL (a.drop k) (b.drop k) = decide (a.length < b.length) := by
  by_cases e : k < b.length
  · have e2 : k = a.length := by omega
    subst e2
    rw [List.drop_length, List.drop_eq_getElem_cons e, lexL]
    simp; exact e
  · have e2 : k = b.length := by omega
    subst e2
    rw [List.drop_length]
    have : lexL (a.drop b.length) [] = false := by cases a.drop b.length <;> rfl
    rw [this]; simp; exact ha

set_option maxHeartbeats 8000000 in
theorem specLess_any (w : World) (a b : List Nat) (u v : Value) (hu : Sl w 1 u (intN a).length (intsRow (intN a))) (hv : Sl w 1 v (intN b).length (intsRow (intN b))) (hna : a.length ≤ 4194304) (hnb : b.length ≤ 4194304) :
    Calls Try.prog 73 #[u, v] w fun e w' => e = .returned (.bool (lexL a b)) ∧ Below w.heap.size w w' := by
  obtain ⟨A, c, rfl, hl, hc, hr⟩ := hu
  obtain ⟨A2, c2, rfl, hl2, hc2, hr2⟩ := hv
  have Hr := Lib.hid hr
  have Hr2 := Lib.hid hr2
  have la := intN_len a
  have lb := intN_len b
  obtain ⟨na, hna2⟩ : ∃ na, na = (intN a).length := ⟨_, rfl⟩
  obtain ⟨nb, hnb2⟩ : ∃ nb, nb = (intN b).length := ⟨_, rfl⟩
  have HNA := Lib.hid hna2
  have HNB := Lib.hid hnb2
  have HLA := Lib.hid la
  have HLB := Lib.hid lb
  rw [← hna2] at hl la Hr ⊢
  rw [← hnb2] at hl2 lb Hr2 ⊢
  have hna' : na ≤ 4194304 := by omega
  have hnb' : nb ≤ 4194304 := by omega
  have HQA := Lib.hid (show na = a.length by omega)
  have HQB := Lib.hid (show nb = b.length by omega)
  clear hr hr2 hna2 hnb2 la lb
  go_enter Try.func73, Try.ntmps73
  go_wp2
  go_loopw [5] (fun i wr => ∃ k : Nat, i = .int .i64 k ∧ k ≤ na ∧ k ≤ nb ∧ Hid (lexL a b = lexL (a.drop k) (b.drop k)) ∧ Below w.heap.size w wr) (fun i _ => na - (intOf i).toNat)
  case atStart => exact ⟨0, rfl, Nat.zero_le _, Nat.zero_le _, Lib.hid rfl, Below.refl _ _⟩
  case round =>
    obtain ⟨k, rfl, hka, hkb, hL, hb⟩ := hrel
    have Hb := Lib.hid hb
    clear hb
    by_cases hlt : k < na
    · by_cases hlt2 : k < nb
      · obtain ⟨ga, oa, rfl, hga, a0⟩ := (show Rd w w.heap.size 1 A (intN a).length (intsRow (intN a)) by rw [← HNA.out]; exact Hr.out).ints (by rw [← HNA.out]; exact hlt)
        obtain ⟨gb, ob, rfl, hgb, b0⟩ := (show Rd w w.heap.size 1 A2 (intN b).length (intsRow (intN b)) by rw [← HNB.out]; exact Hr2.out).ints (by rw [← HNB.out]; exact hlt2)
        rw [intN_at] at a0 b0
        have HS := Lib.hid (lex_step (a := a) (b := b) (k := k) (by have := HQA.out; omega) (by have := HQB.out; omega))
        obtain ⟨x, hx⟩ : ∃ x, x = natAt a k := ⟨_, rfl⟩
        obtain ⟨y, hy⟩ : ∃ y, y = natAt b k := ⟨_, rfl⟩
        rw [← hx] at a0 HS
        rw [← hy] at b0 HS
        have a1 := (Hb.out.cell (p := ⟨ga, oa + k, none⟩) hga).trans a0
        have b1 := (Hb.out.cell (p := ⟨gb, ob + k, none⟩) hgb).trans b0
        have i0 : (0 : Int) ≤ (k : Int) := Int.natCast_nonneg _
        have i1 : (k : Int) < (na : Int) := by omega
        have i2 : (k : Int) < (nb : Int) := by omega
        clear a0 b0 hx hy
        by_cases he : x = y
        · subst he
          have HS2 := Lib.hid (show lexL a b = lexL (a.drop (k + 1)) (b.drop (k + 1)) by rw [hL.out, HS.out, if_pos rfl])
          have t1 : ((x : Int) != (x : Int)) = false := by simp
          go_wp2
          refine wp_region_held_drew (S := (fun w' => w'.cell? ⟨ga, oa + k, none⟩ = some (.int .i64 (x : Int)) ∧ w'.cell? ⟨gb, ob + k, none⟩ = some (.int .i64 (x : Int)))) (by kernel_rfl) ?_ (fun hHeld => ?_)
          · (try dsimp only); first | exact ⟨by assumption, by assumption⟩ | (go_split_ands; exact ⟨by assumption, by assumption⟩) | go_keep
          refine wpAnyH_take (i := 0) (v := ?_) rfl (by kernel_rfl) (by kernel_rfl) (by kernel_rfl) (fun _ _ _ h => h) (Or.inl ⟨by rfl, ?_⟩) (by assumption) ?_
          rotate_left
          · (intro w hSw; (try dsimp only at hSw); go_simp) <;> with_reducible rfl
          try simp only [Act.put, List.setIfInBounds_toArray, List.set_cons_zero, List.set_cons_succ, List.getElem_toArray, List.getElem_cons_succ, List.getElem_cons_zero]
          refine wpAnyH_take (i := 1) (v := ?_) rfl (by kernel_rfl) (by kernel_rfl) (by kernel_rfl) (fun _ _ _ h => h) (Or.inl ⟨by rfl, ?_⟩) (by assumption) ?_
          rotate_left
          · (intro w hSw; (try dsimp only at hSw); go_simp) <;> with_reducible rfl
          try simp only [Act.put, List.setIfInBounds_toArray, List.set_cons_zero, List.set_cons_succ, List.getElem_toArray, List.getElem_cons_succ, List.getElem_cons_zero]
          refine wpAnyH_take (i := 2) (v := ?_) rfl (by kernel_rfl) (by kernel_rfl) (by kernel_rfl) (fun _ _ _ h => h) (Or.inl ⟨by rfl, ?_⟩) (by assumption) ?_
          rotate_left
          · (intro w hSw; (try dsimp only at hSw); go_simp) <;> with_reducible rfl
          try simp only [Act.put, List.setIfInBounds_toArray, List.set_cons_zero, List.set_cons_succ, List.getElem_toArray, List.getElem_cons_succ, List.getElem_cons_zero]
          refine wpAnyH_take (i := 3) (v := ?_) rfl (by kernel_rfl) (by kernel_rfl) (by kernel_rfl) (fun _ _ _ h => h) (Or.inl ⟨by rfl, ?_⟩) (by assumption) ?_
          rotate_left
          · (intro w hSw; (try dsimp only at hSw); go_simp) <;> with_reducible rfl
          try simp only [Act.put, List.setIfInBounds_toArray, List.set_cons_zero, List.set_cons_succ, List.getElem_toArray, List.getElem_cons_succ, List.getElem_cons_zero]
          refine wpAnyH_take (i := 4) (v := ?_) rfl (by kernel_rfl) (by kernel_rfl) (by kernel_rfl) (fun _ _ _ h => h) (Or.inl ⟨by rfl, ?_⟩) (by assumption) ?_
          rotate_left
          · (intro w hSw; (try dsimp only at hSw); go_simp) <;> with_reducible rfl
          try simp only [Act.put, List.setIfInBounds_toArray, List.set_cons_zero, List.set_cons_succ, List.getElem_toArray, List.getElem_cons_succ, List.getElem_cons_zero]
          refine wpAnyH_take (i := 5) (v := ?_) rfl (by kernel_rfl) (by kernel_rfl) (by kernel_rfl) (fun _ _ _ h => h) (Or.inl ⟨by rfl, ?_⟩) (by assumption) ?_
          rotate_left
          · (intro w hSw; (try dsimp only at hSw); go_simp) <;> with_reducible rfl
          try simp only [Act.put, List.setIfInBounds_toArray, List.set_cons_zero, List.set_cons_succ, List.getElem_toArray, List.getElem_cons_succ, List.getElem_cons_zero]
          refine wpAnyH_take (i := 6) (v := ?_) rfl (by kernel_rfl) (by kernel_rfl) (by kernel_rfl) (fun _ _ _ h => h) (Or.inl ⟨by rfl, ?_⟩) (by assumption) ?_
          rotate_left
          · (intro w hSw; (try dsimp only at hSw); go_simp) <;> with_reducible rfl
          try simp only [Act.put, List.setIfInBounds_toArray, List.set_cons_zero, List.set_cons_succ, List.getElem_toArray, List.getElem_cons_succ, List.getElem_cons_zero]
          refine wpAnyH_take (i := 7) (v := ?_) rfl (by kernel_rfl) (by kernel_rfl) (by kernel_rfl) (fun _ _ _ h => h) (Or.inl ⟨by rfl, ?_⟩) (by assumption) ?_
          rotate_left
          · (intro w hSw; (try dsimp only at hSw); go_simp) <;> with_reducible rfl
          try simp only [Act.put, List.setIfInBounds_toArray, List.set_cons_zero, List.set_cons_succ, List.getElem_toArray, List.getElem_cons_succ, List.getElem_cons_zero]
          refine wpAnyH_take (i := 8) (v := ?_) rfl (by kernel_rfl) (by kernel_rfl) (by kernel_rfl) (fun _ _ _ h => h) (Or.inl ⟨by rfl, ?_⟩) (by assumption) ?_
          rotate_left
          · (intro w hSw; (try dsimp only at hSw); go_simp) <;> with_reducible rfl
          try simp only [Act.put, List.setIfInBounds_toArray, List.set_cons_zero, List.set_cons_succ, List.getElem_toArray, List.getElem_cons_succ, List.getElem_cons_zero]
          refine wpAnyH_done (by kernel_rfl) ?_ _
          have Hb4 := Lib.hid (Hb.out.drew)
          go_wp2
          go_roundw
          case rel => exact ⟨k + 1, by go_num, by omega, by omega, HS2, Hb4.out⟩
          case measure => simp [intOf]; omega
        · have HS2 := Lib.hid (show lexL a b = decide (x < y) by rw [hL.out, HS.out, if_neg he])
          have t1 : ((x : Int) != (y : Int)) = true := by simp; omega
          clear hL
          go_wp2
          refine wp_region_held_drew (S := (fun w' => w'.cell? ⟨ga, oa + k, none⟩ = some (.int .i64 (x : Int)) ∧ w'.cell? ⟨gb, ob + k, none⟩ = some (.int .i64 (y : Int)))) (by kernel_rfl) ?_ (fun hHeld => ?_)
          · (try dsimp only); first | exact ⟨by assumption, by assumption⟩ | (go_split_ands; exact ⟨by assumption, by assumption⟩) | go_keep
          refine wpAnyH_take (i := 0) (v := ?_) rfl (by kernel_rfl) (by kernel_rfl) (by kernel_rfl) (fun _ _ _ h => h) (Or.inl ⟨by rfl, ?_⟩) (by assumption) ?_
          rotate_left
          · (intro w hSw; (try dsimp only at hSw); go_simp) <;> with_reducible rfl
          try simp only [Act.put, List.setIfInBounds_toArray, List.set_cons_zero, List.set_cons_succ, List.getElem_toArray, List.getElem_cons_succ, List.getElem_cons_zero]
          refine wpAnyH_take (i := 1) (v := ?_) rfl (by kernel_rfl) (by kernel_rfl) (by kernel_rfl) (fun _ _ _ h => h) (Or.inl ⟨by rfl, ?_⟩) (by assumption) ?_
          rotate_left
          · (intro w hSw; (try dsimp only at hSw); go_simp) <;> with_reducible rfl
          try simp only [Act.put, List.setIfInBounds_toArray, List.set_cons_zero, List.set_cons_succ, List.getElem_toArray, List.getElem_cons_succ, List.getElem_cons_zero]
          refine wpAnyH_take (i := 2) (v := ?_) rfl (by kernel_rfl) (by kernel_rfl) (by kernel_rfl) (fun _ _ _ h => h) (Or.inl ⟨by rfl, ?_⟩) (by assumption) ?_
          rotate_left
          · (intro w hSw; (try dsimp only at hSw); go_simp) <;> with_reducible rfl
          try simp only [Act.put, List.setIfInBounds_toArray, List.set_cons_zero, List.set_cons_succ, List.getElem_toArray, List.getElem_cons_succ, List.getElem_cons_zero]
          refine wpAnyH_take (i := 3) (v := ?_) rfl (by kernel_rfl) (by kernel_rfl) (by kernel_rfl) (fun _ _ _ h => h) (Or.inl ⟨by rfl, ?_⟩) (by assumption) ?_
          rotate_left
          · (intro w hSw; (try dsimp only at hSw); go_simp) <;> with_reducible rfl
          try simp only [Act.put, List.setIfInBounds_toArray, List.set_cons_zero, List.set_cons_succ, List.getElem_toArray, List.getElem_cons_succ, List.getElem_cons_zero]
          refine wpAnyH_take (i := 4) (v := ?_) rfl (by kernel_rfl) (by kernel_rfl) (by kernel_rfl) (fun _ _ _ h => h) (Or.inl ⟨by rfl, ?_⟩) (by assumption) ?_
          rotate_left
          · (intro w hSw; (try dsimp only at hSw); go_simp) <;> with_reducible rfl
          try simp only [Act.put, List.setIfInBounds_toArray, List.set_cons_zero, List.set_cons_succ, List.getElem_toArray, List.getElem_cons_succ, List.getElem_cons_zero]
          refine wpAnyH_take (i := 5) (v := ?_) rfl (by kernel_rfl) (by kernel_rfl) (by kernel_rfl) (fun _ _ _ h => h) (Or.inl ⟨by rfl, ?_⟩) (by assumption) ?_
          rotate_left
          · (intro w hSw; (try dsimp only at hSw); go_simp) <;> with_reducible rfl
          try simp only [Act.put, List.setIfInBounds_toArray, List.set_cons_zero, List.set_cons_succ, List.getElem_toArray, List.getElem_cons_succ, List.getElem_cons_zero]
          refine wpAnyH_take (i := 6) (v := ?_) rfl (by kernel_rfl) (by kernel_rfl) (by kernel_rfl) (fun _ _ _ h => h) (Or.inl ⟨by rfl, ?_⟩) (by assumption) ?_
          rotate_left
          · (intro w hSw; (try dsimp only at hSw); go_simp) <;> with_reducible rfl
          try simp only [Act.put, List.setIfInBounds_toArray, List.set_cons_zero, List.set_cons_succ, List.getElem_toArray, List.getElem_cons_succ, List.getElem_cons_zero]
          refine wpAnyH_take (i := 7) (v := ?_) rfl (by kernel_rfl) (by kernel_rfl) (by kernel_rfl) (fun _ _ _ h => h) (Or.inl ⟨by rfl, ?_⟩) (by assumption) ?_
          rotate_left
          · (intro w hSw; (try dsimp only at hSw); go_simp) <;> with_reducible rfl
          try simp only [Act.put, List.setIfInBounds_toArray, List.set_cons_zero, List.set_cons_succ, List.getElem_toArray, List.getElem_cons_succ, List.getElem_cons_zero]
          refine wpAnyH_take (i := 8) (v := ?_) rfl (by kernel_rfl) (by kernel_rfl) (by kernel_rfl) (fun _ _ _ h => h) (Or.inl ⟨by rfl, ?_⟩) (by assumption) ?_
          rotate_left
          · (intro w hSw; (try dsimp only at hSw); go_simp) <;> with_reducible rfl
          try simp only [Act.put, List.setIfInBounds_toArray, List.set_cons_zero, List.set_cons_succ, List.getElem_toArray, List.getElem_cons_succ, List.getElem_cons_zero]
          refine wpAnyH_done (by kernel_rfl) ?_ _
          go_wp2
          refine wp_region_held_drew (S := (fun w' => w'.cell? ⟨ga, oa + k, none⟩ = some (.int .i64 (x : Int)) ∧ w'.cell? ⟨gb, ob + k, none⟩ = some (.int .i64 (y : Int)))) (by kernel_rfl) ?_ (fun hHeld => ?_)
          · (try dsimp only); first | exact ⟨by assumption, by assumption⟩ | (go_split_ands; exact ⟨by assumption, by assumption⟩) | go_keep
          refine wpAnyH_take (i := 0) (v := ?_) rfl (by kernel_rfl) (by kernel_rfl) (by kernel_rfl) (fun _ _ _ h => h) (Or.inl ⟨by rfl, ?_⟩) (by assumption) ?_
          rotate_left
          · (intro w hSw; (try dsimp only at hSw); go_simp) <;> with_reducible rfl
          try simp only [Act.put, List.setIfInBounds_toArray, List.set_cons_zero, List.set_cons_succ, List.getElem_toArray, List.getElem_cons_succ, List.getElem_cons_zero]
          refine wpAnyH_take (i := 1) (v := ?_) rfl (by kernel_rfl) (by kernel_rfl) (by kernel_rfl) (fun _ _ _ h => h) (Or.inl ⟨by rfl, ?_⟩) (by assumption) ?_
          rotate_left
          · (intro w hSw; (try dsimp only at hSw); go_simp) <;> with_reducible rfl
          try simp only [Act.put, List.setIfInBounds_toArray, List.set_cons_zero, List.set_cons_succ, List.getElem_toArray, List.getElem_cons_succ, List.getElem_cons_zero]
          refine wpAnyH_take (i := 2) (v := ?_) rfl (by kernel_rfl) (by kernel_rfl) (by kernel_rfl) (fun _ _ _ h => h) (Or.inl ⟨by rfl, ?_⟩) (by assumption) ?_
          rotate_left
          · (intro w hSw; (try dsimp only at hSw); go_simp) <;> with_reducible rfl
          try simp only [Act.put, List.setIfInBounds_toArray, List.set_cons_zero, List.set_cons_succ, List.getElem_toArray, List.getElem_cons_succ, List.getElem_cons_zero]
          refine wpAnyH_take (i := 3) (v := ?_) rfl (by kernel_rfl) (by kernel_rfl) (by kernel_rfl) (fun _ _ _ h => h) (Or.inl ⟨by rfl, ?_⟩) (by assumption) ?_
          rotate_left
          · (intro w hSw; (try dsimp only at hSw); go_simp) <;> with_reducible rfl
          try simp only [Act.put, List.setIfInBounds_toArray, List.set_cons_zero, List.set_cons_succ, List.getElem_toArray, List.getElem_cons_succ, List.getElem_cons_zero]
          refine wpAnyH_take (i := 4) (v := ?_) rfl (by kernel_rfl) (by kernel_rfl) (by kernel_rfl) (fun _ _ _ h => h) (Or.inl ⟨by rfl, ?_⟩) (by assumption) ?_
          rotate_left
          · (intro w hSw; (try dsimp only at hSw); go_simp) <;> with_reducible rfl
          try simp only [Act.put, List.setIfInBounds_toArray, List.set_cons_zero, List.set_cons_succ, List.getElem_toArray, List.getElem_cons_succ, List.getElem_cons_zero]
          refine wpAnyH_take (i := 5) (v := ?_) rfl (by kernel_rfl) (by kernel_rfl) (by kernel_rfl) (fun _ _ _ h => h) (Or.inl ⟨by rfl, ?_⟩) (by assumption) ?_
          rotate_left
          · (intro w hSw; (try dsimp only at hSw); go_simp) <;> with_reducible rfl
          try simp only [Act.put, List.setIfInBounds_toArray, List.set_cons_zero, List.set_cons_succ, List.getElem_toArray, List.getElem_cons_succ, List.getElem_cons_zero]
          refine wpAnyH_take (i := 6) (v := ?_) rfl (by kernel_rfl) (by kernel_rfl) (by kernel_rfl) (fun _ _ _ h => h) (Or.inl ⟨by rfl, ?_⟩) (by assumption) ?_
          rotate_left
          · (intro w hSw; (try dsimp only at hSw); go_simp) <;> with_reducible rfl
          try simp only [Act.put, List.setIfInBounds_toArray, List.set_cons_zero, List.set_cons_succ, List.getElem_toArray, List.getElem_cons_succ, List.getElem_cons_zero]
          refine wpAnyH_take (i := 7) (v := ?_) rfl (by kernel_rfl) (by kernel_rfl) (by kernel_rfl) (fun _ _ _ h => h) (Or.inl ⟨by rfl, ?_⟩) (by assumption) ?_
          rotate_left
          · (intro w hSw; (try dsimp only at hSw); go_simp) <;> with_reducible rfl
          try simp only [Act.put, List.setIfInBounds_toArray, List.set_cons_zero, List.set_cons_succ, List.getElem_toArray, List.getElem_cons_succ, List.getElem_cons_zero]
          refine wpAnyH_take (i := 8) (v := ?_) rfl (by kernel_rfl) (by kernel_rfl) (by kernel_rfl) (fun _ _ _ h => h) (Or.inl ⟨by rfl, ?_⟩) (by assumption) ?_
          rotate_left
          · (intro w hSw; (try dsimp only at hSw); go_simp) <;> with_reducible rfl
          try simp only [Act.put, List.setIfInBounds_toArray, List.set_cons_zero, List.set_cons_succ, List.getElem_toArray, List.getElem_cons_succ, List.getElem_cons_zero]
          refine wpAnyH_take (i := 9) (v := ?_) rfl (by kernel_rfl) (by kernel_rfl) (by kernel_rfl) (fun _ _ _ h => h) (Or.inl ⟨by rfl, ?_⟩) (by assumption) ?_
          rotate_left
          · (intro w hSw; (try dsimp only at hSw); go_simp) <;> with_reducible rfl
          try simp only [Act.put, List.setIfInBounds_toArray, List.set_cons_zero, List.set_cons_succ, List.getElem_toArray, List.getElem_cons_succ, List.getElem_cons_zero]
          refine wpAnyH_done (by kernel_rfl) ?_ _
          have Hb4 := Lib.hid (Hb.out.drew.drew)
          go_wp2
          go_ret
          exact ⟨by rw [HS2.out]; rfl, Hb4.out⟩
      · have HE := Lib.hid (show lexL a b = decide (na < nb) by rw [hL.out, lex_end (by have := HQA.out; omega) (by have := HQB.out; omega) (by have := HQA.out; have := HQB.out; omega), ← HQA.out, ← HQB.out])
        go_wp2
        go_ret
        exact ⟨by rw [HE.out]; rfl, Hb.out⟩
    · have HE := Lib.hid (show lexL a b = decide (na < nb) by rw [hL.out, lex_end (by have := HQA.out; omega) (by have := HQB.out; omega) (by have := HQA.out; have := HQB.out; omega), ← HQA.out, ← HQB.out])
      go_wp2
      go_ret
      exact ⟨by rw [HE.out]; rfl, Hb.out⟩
end Go.Proofs.Ytecfkomijaakhaa
