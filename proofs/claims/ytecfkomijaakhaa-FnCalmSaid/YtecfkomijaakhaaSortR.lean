/- SortNumbers gives some list of numbers, or a code. Printed by gen_sort.py. -/
import Derived.Test.YtecfkomijaakhaaDrawRQ
namespace Go.Proofs.Ytecfkomijaakhaa
open Go.RowKit

theorem Rd.cut1 {w : World} {B n c q : Nat} {A : Option Addr} {xs : List Value} (h : Rd w B 1 A n xs) (hq : q ≤ n) (hc : n ≤ c) : Rd w B 1 (if c = q then A else Option.map (fun x => x.add q) A) (n - q) (xs.drop q) := by
  refine ⟨by rw [List.length_drop, h.1]; omega, fun hn => ?_⟩
  obtain ⟨g, o, rfl, hb, hc'⟩ := h.2 (by omega)
  rw [if_neg (by omega)]
  refine ⟨g, o + q, by simp [Addr.add], hb, fun j u hu => ?_⟩
  rw [List.getElem?_drop] at hu
  rw [Nat.add_assoc]; exact hc' _ u hu
theorem cut_addr1 (go oo q c : Nat) : (if c = q then some (⟨go, oo, none⟩ : Addr) else Option.map (fun x : Addr => x.add q) (some (⟨go, oo, none⟩ : Addr))) = (if c = q then some (⟨go, oo, none⟩ : Addr) else some ⟨go, oo + q, none⟩) := by
  by_cases h : q = 0
  · simp [Addr.add, h]
  · simp [Addr.add, h]
set_option maxHeartbeats 400000 in
theorem specIs_any (n : Int) (w : World) : Calls Try.prog 85 #[.int .i64 n] w fun e w' => (∃ b : Bool, e = .returned (.bool b)) ∧ w = w' := by
  go_enter Try.func85, Try.ntmps85
  go_wp2_with fail
  refine (l01In_any n _ _ w).mono ?_
  rintro e w' ⟨rfl, rfl⟩
  go_wp2
  go_ret
  exact ⟨⟨_, rfl⟩, rfl⟩
set_option maxHeartbeats 1600000 in
theorem specValues_any (w : World) (l : List Int) (v : Value) (hv : Sl w 1 v l.length (intsRow l)) (hn : l.length ≤ 1000) :
    Calls Try.prog 84 #[v] w fun e w' => (∃ cd : Int, e = .returned (.int .i64 cd)) ∧ Below w.heap.size w w' := by
  obtain ⟨A, c, rfl, _, hc, hr⟩ := hv
  have Hr := Lib.hid hr
  unfold maxLen at hc
  clear hr
  go_enter Try.func84, Try.ntmps84
  go_wp2
  go_loopw [3] (fun i wr => ∃ k : Nat, k ≤ l.length ∧ i = .int .i64 k ∧ Below w.heap.size w wr) (fun i _ => l.length - (intOf i).toNat)
  case atStart => exact ⟨0, Nat.zero_le _, rfl, Below.refl _ _⟩
  case round =>
    obtain ⟨k, hk, rfl, hb⟩ := hrel
    by_cases hlt : k < l.length
    · obtain ⟨g, o, rfl, hg, c0⟩ := (Hr.out.below hb (Nat.le_refl _)).ints hlt
      have i0 : (0 : Int) ≤ (k : Int) := Int.natCast_nonneg _
      have i1 : (k : Int) < (l.length : Int) := by omega
      go_wp2_with fail
      refine (specIs_any _ wr).mono ?_
      rintro e w2 ⟨⟨b, rfl⟩, rfl⟩
      cases b
      · go_wp2
        go_ret
        exact ⟨⟨_, rfl⟩, hb⟩
      · go_wp2
        go_roundw
        case rel => exact ⟨k + 1, by omega, by go_num, hb⟩
        case measure => simp [intOf]; omega
    · by_cases hl : (60 : Int) < (l.length : Int)
      · go_wp2
        go_ret
        exact ⟨⟨_, rfl⟩, hb⟩
      · go_wp2
        go_ret
        exact ⟨⟨_, rfl⟩, hb⟩
theorem intsRow_ins (O : List Int) (y : Int) (q : Nat) : intsRow (O.take q ++ y :: O.drop q) = (intsRow O).take q ++ [.int .i64 y] ++ (intsRow O).drop q := by
  simp [intsRow, List.map_take, List.map_drop]

set_option maxHeartbeats 16000000 in
set_option maxRecDepth 100000 in
theorem specSort_any (w : World) (l : List Int) (v : Value) (hv : Sl w 1 v l.length (intsRow l)) (hn : l.length ≤ 1000) :
    Calls Try.prog 79 #[v] w fun e w' => ∃ (o : List Int) (u : Value) (cd : Int), e = .returned (.tuple #[u, .int .i64 cd]) ∧ w'.ownsRow w.heap.size 2 1 u o.length (intsRow o) ∧ o.length ≤ l.length ∧ Below w.heap.size w w' := by
  have Hv := Lib.hid hv
  obtain ⟨i0, hi, hz0, hz1, hz2⟩ := info_parts Try.info_ints
  obtain ⟨Av, cv, rfl, hav, hcv, _⟩ := hv
  unfold maxLen at hcv
  go_enter Try.func79, Try.ntmps79
  go_wp2_with fail
  refine (specValues_any w l _ Hv.out hn).mono ?_
  rintro e w2 ⟨⟨cd, rfl⟩, hb2⟩
  have hs2 := hb2.size
  by_cases hcd : cd = 0
  · subst hcd
    have Hb2 := Lib.hid hb2
    clear hb2
    go_wp2
    go_loopw [5, 6] (fun q i wr => ∃ (O : List Int) (Ao : Option Addr) (co k : Nat), q = .slice Ao O.length co ∧ i = .int .i64 k ∧ k ≤ l.length ∧ O.length ≤ k ∧ wr.ownsRow w.heap.size 2 1 (.slice Ao O.length co) O.length (intsRow O) ∧ Below w.heap.size w wr) (fun _ i _ => l.length - (intOf i).toNat)
    case atStart => exact ⟨[], some ⟨w2.heap.size, 0, none⟩, 0, 0, rfl, rfl, Nat.zero_le _, by simp, own_empty _ _ _ hs2, Hb2.out.alloc hs2 _⟩
    case round =>
      clear Hb2
      obtain ⟨O, Ao, co, k, rfl, rfl, hk, hOk, ho, hbw⟩ := hrel
      have Ho := Lib.hid ho
      have Hbw := Lib.hid hbw
      have hszr := hbw.size
      clear ho hbw
      by_cases hlt : k < l.length
      · skip
        obtain ⟨y, hye⟩ : ∃ y, y = intsAt l k := ⟨_, rfl⟩
        obtain ⟨gy, oy, rfl, hgy, y0⟩ := (Sl.rd (Hv.out.below Hbw.out)).ints hlt
        rw [← hye] at y0
        have j0 : (0 : Int) ≤ (k : Int) := Int.natCast_nonneg _
        have j1 : (k : Int) < (l.length : Int) := by omega
        clear hye
        go_wp2
        rename World => wo
        go_loopw [7] (fun a wq => ∃ q : Nat, a = .int .i64 q ∧ q ≤ O.length ∧ Below wo.heap.size wo wq) (fun a _ => O.length - (intOf a).toNat)
        case atStart => exact ⟨0, rfl, Nat.zero_le _, Below.refl _ _⟩
        case round =>
          obtain ⟨q, rfl, hq, hbq⟩ := hrel
          have Hbq := Lib.hid hbq
          clear hbq
          have Hbt := Lib.hid (Hbw.out.trans (Hbq.out.mono hszr))
          have hszt := Hbt.out.size
          have Hot := Lib.hid (own_below Ho.out Hbq.out)
          have z0 := (Hbq.out.cell (p := ⟨gy, oy + k, none⟩) hgy).trans y0
          have hgyt : gy < wr.heap.size := block_lt_cell z0
          by_cases hql : q < O.length
          · skip
            obtain ⟨go, cc, hv, hgo1, hgo2⟩ := own_form Hot.out (by omega)
            injection hv with hv1 hv2 hv3
            subst hv1
            subst hv3
            have x0 := (Hot.out.cellAt q (by omega)).trans (intsRow_at O q hql)
            obtain ⟨xv, hxv⟩ : ∃ xv, xv = intsAt O q := ⟨_, rfl⟩
            rw [← hxv] at x0
            clear hxv
            have jq0 : (0 : Int) ≤ (q : Int) := Int.natCast_nonneg _
            have jq1 : (q : Int) < (O.length : Int) := by omega
            by_cases hc : xv ≤ y
            · have t0 : decide (xv ≤ y) = true := by simpa using hc
              go_wp2
              refine wp_region_held_drew (S := (fun w' => w'.cell? ⟨go, q, none⟩ = some (.int .i64 xv) ∧ w'.cell? ⟨gy, oy + k, none⟩ = some (.int .i64 y))) (by kernel_rfl) ?_ (fun hHeld => ?_)
              · (try dsimp only); first | (go_split_ands; exact ⟨by assumption, by assumption⟩) | (go_split_ands; refine ⟨?_, ?_⟩ <;> assumption) | go_keep
              refine wpAnyH_take (i := 0) (v := ?_) rfl (by kernel_rfl) (by kernel_rfl) (by kernel_rfl) (fun _ _ _ h => h) (Or.inl ⟨by rfl, ?_⟩) (by assumption) ?_
              rotate_left
              · (intro w hSw; (try dsimp only at hSw); go_simp) <;> with_reducible rfl
              try simp only [Act.put, List.setIfInBounds_toArray, List.set_cons_zero, List.set_cons_succ, List.getElem_toArray, List.getElem_cons_succ, List.getElem_cons_zero]
              refine wpAnyH_take (i := 1) (v := ?_) rfl (by kernel_rfl) (by kernel_rfl) (by kernel_rfl) (fun _ _ _ h => h) (Or.inl ⟨by rfl, ?_⟩) (by assumption) ?_
              rotate_left
              · (intro w hSw; (try dsimp only at hSw); go_simp) <;> with_reducible rfl
              try simp only [Act.put, List.setIfInBounds_toArray, List.set_cons_zero, List.set_cons_succ, List.getElem_toArray, List.getElem_cons_succ, List.getElem_cons_zero]
              refine wpAnyH_take (i := 2) (v := ?_) rfl (by kernel_rfl) (by kernel_rfl) (by kernel_rfl) (fun _ _ _ h => h) (Or.inl ⟨by rfl, ?_⟩) (by assumption) ?_
              rotate_left
              · (intro w hSw; (try dsimp only at hSw); go_simp) <;> with_reducible rfl
              try simp only [Act.put, List.setIfInBounds_toArray, List.set_cons_zero, List.set_cons_succ, List.getElem_toArray, List.getElem_cons_succ, List.getElem_cons_zero]
              refine wpAnyH_take (i := 3) (v := ?_) rfl (by kernel_rfl) (by kernel_rfl) (by kernel_rfl) (fun _ _ _ h => h) (Or.inl ⟨by rfl, ?_⟩) (by assumption) ?_
              rotate_left
              · (intro w hSw; (try dsimp only at hSw); go_simp) <;> with_reducible rfl
              try simp only [Act.put, List.setIfInBounds_toArray, List.set_cons_zero, List.set_cons_succ, List.getElem_toArray, List.getElem_cons_succ, List.getElem_cons_zero]
              refine wpAnyH_take (i := 4) (v := ?_) rfl (by kernel_rfl) (by kernel_rfl) (by kernel_rfl) (fun _ _ _ h => h) (Or.inl ⟨by rfl, ?_⟩) (by assumption) ?_
              rotate_left
              · (intro w hSw; (try dsimp only at hSw); go_simp) <;> with_reducible rfl
              try simp only [Act.put, List.setIfInBounds_toArray, List.set_cons_zero, List.set_cons_succ, List.getElem_toArray, List.getElem_cons_succ, List.getElem_cons_zero]
              refine wpAnyH_take (i := 5) (v := ?_) rfl (by kernel_rfl) (by kernel_rfl) (by kernel_rfl) (fun _ _ _ h => h) (Or.inl ⟨by rfl, ?_⟩) (by assumption) ?_
              rotate_left
              · (intro w hSw; (try dsimp only at hSw); go_simp) <;> with_reducible rfl
              try simp only [Act.put, List.setIfInBounds_toArray, List.set_cons_zero, List.set_cons_succ, List.getElem_toArray, List.getElem_cons_succ, List.getElem_cons_zero]
              refine wpAnyH_take (i := 6) (v := ?_) rfl (by kernel_rfl) (by kernel_rfl) (by kernel_rfl) (fun _ _ _ h => h) (Or.inl ⟨by rfl, ?_⟩) (by assumption) ?_
              rotate_left
              · (intro w hSw; (try dsimp only at hSw); go_simp) <;> with_reducible rfl
              try simp only [Act.put, List.setIfInBounds_toArray, List.set_cons_zero, List.set_cons_succ, List.getElem_toArray, List.getElem_cons_succ, List.getElem_cons_zero]
              refine wpAnyH_take (i := 7) (v := ?_) rfl (by kernel_rfl) (by kernel_rfl) (by kernel_rfl) (fun _ _ _ h => h) (Or.inl ⟨by rfl, ?_⟩) (by assumption) ?_
              rotate_left
              · (intro w hSw; (try dsimp only at hSw); go_simp) <;> with_reducible rfl
              try simp only [Act.put, List.setIfInBounds_toArray, List.set_cons_zero, List.set_cons_succ, List.getElem_toArray, List.getElem_cons_succ, List.getElem_cons_zero]
              refine wpAnyH_take (i := 8) (v := ?_) rfl (by kernel_rfl) (by kernel_rfl) (by kernel_rfl) (fun _ _ _ h => h) (Or.inl ⟨by rfl, ?_⟩) (by assumption) ?_
              rotate_left
              · (intro w hSw; (try dsimp only at hSw); go_simp) <;> with_reducible rfl
              try simp only [Act.put, List.setIfInBounds_toArray, List.set_cons_zero, List.set_cons_succ, List.getElem_toArray, List.getElem_cons_succ, List.getElem_cons_zero]
              refine wpAnyH_take (i := 9) (v := ?_) rfl (by kernel_rfl) (by kernel_rfl) (by kernel_rfl) (fun _ _ _ h => h) (Or.inl ⟨by rfl, ?_⟩) (by assumption) ?_
              rotate_left
              · (intro w hSw; (try dsimp only at hSw); go_simp) <;> with_reducible rfl
              try simp only [Act.put, List.setIfInBounds_toArray, List.set_cons_zero, List.set_cons_succ, List.getElem_toArray, List.getElem_cons_succ, List.getElem_cons_zero]
              refine wpAnyH_take (i := 10) (v := ?_) rfl (by kernel_rfl) (by kernel_rfl) (by kernel_rfl) (fun _ _ _ h => h) (Or.inl ⟨by rfl, ?_⟩) (by assumption) ?_
              rotate_left
              · (intro w hSw; (try dsimp only at hSw); go_simp) <;> with_reducible rfl
              try simp only [Act.put, List.setIfInBounds_toArray, List.set_cons_zero, List.set_cons_succ, List.getElem_toArray, List.getElem_cons_succ, List.getElem_cons_zero]
              refine wpAnyH_take (i := 11) (v := ?_) rfl (by kernel_rfl) (by kernel_rfl) (by kernel_rfl) (fun _ _ _ h => h) (Or.inl ⟨by rfl, ?_⟩) (by assumption) ?_
              rotate_left
              · (intro w hSw; (try dsimp only at hSw); go_simp) <;> with_reducible rfl
              try simp only [Act.put, List.setIfInBounds_toArray, List.set_cons_zero, List.set_cons_succ, List.getElem_toArray, List.getElem_cons_succ, List.getElem_cons_zero]
              refine wpAnyH_take (i := 12) (v := ?_) rfl (by kernel_rfl) (by kernel_rfl) (by kernel_rfl) (fun _ _ _ h => h) (Or.inl ⟨by rfl, ?_⟩) (by assumption) ?_
              rotate_left
              · (intro w hSw; (try dsimp only at hSw); go_simp) <;> with_reducible rfl
              try simp only [Act.put, List.setIfInBounds_toArray, List.set_cons_zero, List.set_cons_succ, List.getElem_toArray, List.getElem_cons_succ, List.getElem_cons_zero]
              refine wpAnyH_take (i := 13) (v := ?_) rfl (by kernel_rfl) (by kernel_rfl) (by kernel_rfl) (fun _ _ _ h => h) (Or.inl ⟨by rfl, ?_⟩) (by assumption) ?_
              rotate_left
              · (intro w hSw; (try dsimp only at hSw); go_simp) <;> with_reducible rfl
              try simp only [Act.put, List.setIfInBounds_toArray, List.set_cons_zero, List.set_cons_succ, List.getElem_toArray, List.getElem_cons_succ, List.getElem_cons_zero]
              refine wpAnyH_take (i := 14) (v := ?_) rfl (by kernel_rfl) (by kernel_rfl) (by kernel_rfl) (fun _ _ _ h => h) (Or.inl ⟨by rfl, ?_⟩) (by assumption) ?_
              rotate_left
              · (intro w hSw; (try dsimp only at hSw); go_simp) <;> with_reducible rfl
              try simp only [Act.put, List.setIfInBounds_toArray, List.set_cons_zero, List.set_cons_succ, List.getElem_toArray, List.getElem_cons_succ, List.getElem_cons_zero]
              refine wpAnyH_done (by kernel_rfl) ?_ _
              clear hHeld
              go_wp2
              go_roundw
              case rel => exact ⟨q + 1, by go_num, by omega, Hbq.out.drew⟩
              case measure => simp [intOf]; omega
            · have t0 : decide (xv ≤ y) = false := by simpa using hc
              go_wp2
              refine wp_region_held_drew (S := (fun w' => w'.cell? ⟨go, q, none⟩ = some (.int .i64 xv) ∧ w'.cell? ⟨gy, oy + k, none⟩ = some (.int .i64 y))) (by kernel_rfl) ?_ (fun hHeld => ?_)
              · (try dsimp only); first | (go_split_ands; exact ⟨by assumption, by assumption⟩) | (go_split_ands; refine ⟨?_, ?_⟩ <;> assumption) | go_keep
              refine wpAnyH_take (i := 0) (v := ?_) rfl (by kernel_rfl) (by kernel_rfl) (by kernel_rfl) (fun _ _ _ h => h) (Or.inl ⟨by rfl, ?_⟩) (by assumption) ?_
              rotate_left
              · (intro w hSw; (try dsimp only at hSw); go_simp) <;> with_reducible rfl
              try simp only [Act.put, List.setIfInBounds_toArray, List.set_cons_zero, List.set_cons_succ, List.getElem_toArray, List.getElem_cons_succ, List.getElem_cons_zero]
              refine wpAnyH_take (i := 1) (v := ?_) rfl (by kernel_rfl) (by kernel_rfl) (by kernel_rfl) (fun _ _ _ h => h) (Or.inl ⟨by rfl, ?_⟩) (by assumption) ?_
              rotate_left
              · (intro w hSw; (try dsimp only at hSw); go_simp) <;> with_reducible rfl
              try simp only [Act.put, List.setIfInBounds_toArray, List.set_cons_zero, List.set_cons_succ, List.getElem_toArray, List.getElem_cons_succ, List.getElem_cons_zero]
              refine wpAnyH_take (i := 2) (v := ?_) rfl (by kernel_rfl) (by kernel_rfl) (by kernel_rfl) (fun _ _ _ h => h) (Or.inl ⟨by rfl, ?_⟩) (by assumption) ?_
              rotate_left
              · (intro w hSw; (try dsimp only at hSw); go_simp) <;> with_reducible rfl
              try simp only [Act.put, List.setIfInBounds_toArray, List.set_cons_zero, List.set_cons_succ, List.getElem_toArray, List.getElem_cons_succ, List.getElem_cons_zero]
              refine wpAnyH_take (i := 3) (v := ?_) rfl (by kernel_rfl) (by kernel_rfl) (by kernel_rfl) (fun _ _ _ h => h) (Or.inl ⟨by rfl, ?_⟩) (by assumption) ?_
              rotate_left
              · (intro w hSw; (try dsimp only at hSw); go_simp) <;> with_reducible rfl
              try simp only [Act.put, List.setIfInBounds_toArray, List.set_cons_zero, List.set_cons_succ, List.getElem_toArray, List.getElem_cons_succ, List.getElem_cons_zero]
              refine wpAnyH_take (i := 4) (v := ?_) rfl (by kernel_rfl) (by kernel_rfl) (by kernel_rfl) (fun _ _ _ h => h) (Or.inl ⟨by rfl, ?_⟩) (by assumption) ?_
              rotate_left
              · (intro w hSw; (try dsimp only at hSw); go_simp) <;> with_reducible rfl
              try simp only [Act.put, List.setIfInBounds_toArray, List.set_cons_zero, List.set_cons_succ, List.getElem_toArray, List.getElem_cons_succ, List.getElem_cons_zero]
              refine wpAnyH_take (i := 5) (v := ?_) rfl (by kernel_rfl) (by kernel_rfl) (by kernel_rfl) (fun _ _ _ h => h) (Or.inl ⟨by rfl, ?_⟩) (by assumption) ?_
              rotate_left
              · (intro w hSw; (try dsimp only at hSw); go_simp) <;> with_reducible rfl
              try simp only [Act.put, List.setIfInBounds_toArray, List.set_cons_zero, List.set_cons_succ, List.getElem_toArray, List.getElem_cons_succ, List.getElem_cons_zero]
              refine wpAnyH_take (i := 6) (v := ?_) rfl (by kernel_rfl) (by kernel_rfl) (by kernel_rfl) (fun _ _ _ h => h) (Or.inl ⟨by rfl, ?_⟩) (by assumption) ?_
              rotate_left
              · (intro w hSw; (try dsimp only at hSw); go_simp) <;> with_reducible rfl
              try simp only [Act.put, List.setIfInBounds_toArray, List.set_cons_zero, List.set_cons_succ, List.getElem_toArray, List.getElem_cons_succ, List.getElem_cons_zero]
              refine wpAnyH_take (i := 7) (v := ?_) rfl (by kernel_rfl) (by kernel_rfl) (by kernel_rfl) (fun _ _ _ h => h) (Or.inl ⟨by rfl, ?_⟩) (by assumption) ?_
              rotate_left
              · (intro w hSw; (try dsimp only at hSw); go_simp) <;> with_reducible rfl
              try simp only [Act.put, List.setIfInBounds_toArray, List.set_cons_zero, List.set_cons_succ, List.getElem_toArray, List.getElem_cons_succ, List.getElem_cons_zero]
              refine wpAnyH_take (i := 8) (v := ?_) rfl (by kernel_rfl) (by kernel_rfl) (by kernel_rfl) (fun _ _ _ h => h) (Or.inl ⟨by rfl, ?_⟩) (by assumption) ?_
              rotate_left
              · (intro w hSw; (try dsimp only at hSw); go_simp) <;> with_reducible rfl
              try simp only [Act.put, List.setIfInBounds_toArray, List.set_cons_zero, List.set_cons_succ, List.getElem_toArray, List.getElem_cons_succ, List.getElem_cons_zero]
              refine wpAnyH_take (i := 9) (v := ?_) rfl (by kernel_rfl) (by kernel_rfl) (by kernel_rfl) (fun _ _ _ h => h) (Or.inl ⟨by rfl, ?_⟩) (by assumption) ?_
              rotate_left
              · (intro w hSw; (try dsimp only at hSw); go_simp) <;> with_reducible rfl
              try simp only [Act.put, List.setIfInBounds_toArray, List.set_cons_zero, List.set_cons_succ, List.getElem_toArray, List.getElem_cons_succ, List.getElem_cons_zero]
              refine wpAnyH_take (i := 10) (v := ?_) rfl (by kernel_rfl) (by kernel_rfl) (by kernel_rfl) (fun _ _ _ h => h) (Or.inl ⟨by rfl, ?_⟩) (by assumption) ?_
              rotate_left
              · (intro w hSw; (try dsimp only at hSw); go_simp) <;> with_reducible rfl
              try simp only [Act.put, List.setIfInBounds_toArray, List.set_cons_zero, List.set_cons_succ, List.getElem_toArray, List.getElem_cons_succ, List.getElem_cons_zero]
              refine wpAnyH_take (i := 11) (v := ?_) rfl (by kernel_rfl) (by kernel_rfl) (by kernel_rfl) (fun _ _ _ h => h) (Or.inl ⟨by rfl, ?_⟩) (by assumption) ?_
              rotate_left
              · (intro w hSw; (try dsimp only at hSw); go_simp) <;> with_reducible rfl
              try simp only [Act.put, List.setIfInBounds_toArray, List.set_cons_zero, List.set_cons_succ, List.getElem_toArray, List.getElem_cons_succ, List.getElem_cons_zero]
              refine wpAnyH_take (i := 12) (v := ?_) rfl (by kernel_rfl) (by kernel_rfl) (by kernel_rfl) (fun _ _ _ h => h) (Or.inl ⟨by rfl, ?_⟩) (by assumption) ?_
              rotate_left
              · (intro w hSw; (try dsimp only at hSw); go_simp) <;> with_reducible rfl
              try simp only [Act.put, List.setIfInBounds_toArray, List.set_cons_zero, List.set_cons_succ, List.getElem_toArray, List.getElem_cons_succ, List.getElem_cons_zero]
              refine wpAnyH_take (i := 13) (v := ?_) rfl (by kernel_rfl) (by kernel_rfl) (by kernel_rfl) (fun _ _ _ h => h) (Or.inl ⟨by rfl, ?_⟩) (by assumption) ?_
              rotate_left
              · (intro w hSw; (try dsimp only at hSw); go_simp) <;> with_reducible rfl
              try simp only [Act.put, List.setIfInBounds_toArray, List.set_cons_zero, List.set_cons_succ, List.getElem_toArray, List.getElem_cons_succ, List.getElem_cons_zero]
              refine wpAnyH_take (i := 14) (v := ?_) rfl (by kernel_rfl) (by kernel_rfl) (by kernel_rfl) (fun _ _ _ h => h) (Or.inl ⟨by rfl, ?_⟩) (by assumption) ?_
              rotate_left
              · (intro w hSw; (try dsimp only at hSw); go_simp) <;> with_reducible rfl
              try simp only [Act.put, List.setIfInBounds_toArray, List.set_cons_zero, List.set_cons_succ, List.getElem_toArray, List.getElem_cons_succ, List.getElem_cons_zero]
              refine wpAnyH_done (by kernel_rfl) ?_ _
              clear hHeld
              obtain ⟨wn, hwn⟩ : ∃ wn, wn = wr.drew := ⟨_, rfl⟩
              rw [← hwn]
              have Hon := Lib.hid (show wn.ownsRow w.heap.size 2 1 (.slice _ O.length co) O.length (intsRow O) by rw [hwn]; exact Hot.out)
              have Hbn : Hid (Below w.heap.size w wn) := by rw [hwn]; exact Lib.hid (Hbt.out.drew)
              have hszn := Hbn.out.size
              have zn0 : wn.cell? ⟨gy, oy + k, none⟩ = some (.int .i64 y) := by rw [hwn]; exact z0
              have hgyn : gy < wn.heap.size := block_lt_cell zn0
              clear hwn
              have jq2 : (0 : Int) ≤ (q : Int) := Int.natCast_nonneg _
              have jq3 : (q : Int) ≤ (O.length : Int) := by omega
              have jq4 : q ≤ O.length := hq
              obtain ⟨_, hco1, hco2⟩ := own_caps Hon.out
              unfold maxLen at hco2
              have jq5 : (q : Int) ≤ (co : Int) := by omega
              have jq6 : (O.length : Int) ≤ (co : Int) := by omega
              have jq7 : q ≤ co := by omega
              have RD := Lib.hid (Rd.of_own Hon.out)
              have HT1 : Hid ((intsRow O).take (q * 1) = (intsRow O).take q) := Lib.hid (by rw [Nat.mul_one])
              go_wp2
              refine wp_region_held_drew (S := (fun w' => w'.cell? ⟨gy, oy + k, none⟩ = some (.int .i64 y))) (by kernel_rfl) ?_ (fun hHeld => ?_)
              · (try dsimp only); first | assumption | (exact (q6.cell (p := ⟨gy, _, none⟩) hgyn).trans zn0) | (exact (q5.cell (p := ⟨gy, _, none⟩) hgyn).trans zn0) | (exact (q4.cell (p := ⟨gy, _, none⟩) hgyn).trans zn0) | (exact ((q4.alloc q4.size _).cell (p := ⟨gy, _, none⟩) hgyn).trans zn0) | (exact ((below_drewN (Below.refl wn.heap.size wn) _).cell (p := ⟨gy, _, none⟩) hgyn).trans zn0) | (exact (((below_drewN (Below.refl wn.heap.size wn) _).alloc (by simp) _).cell (p := ⟨gy, _, none⟩) hgyn).trans zn0) | (exact ((((below_drewN (Below.refl wn.heap.size wn) _).alloc (by simp) _).alloc (by simp <;> omega) _).cell (p := ⟨gy, _, none⟩) hgyn).trans zn0) | go_keep
              refine wpAnyH_take (i := 1) (v := ?_) rfl (by kernel_rfl) (by kernel_rfl) (by kernel_rfl) (fun _ _ _ h => h) (Or.inl ⟨by rfl, ?_⟩) (by assumption) ?_
              rotate_left
              · (intro w hSw; (try dsimp only at hSw); go_simp) <;> with_reducible rfl
              try simp only [Act.put, List.setIfInBounds_toArray, List.set_cons_zero, List.set_cons_succ, List.getElem_toArray, List.getElem_cons_succ, List.getElem_cons_zero]
              refine wpAnyH_take (i := 2) (v := ?_) rfl (by kernel_rfl) (by kernel_rfl) (by kernel_rfl) (fun _ _ _ h => h) (Or.inl ⟨by rfl, ?_⟩) (by assumption) ?_
              rotate_left
              · (intro w hSw; (try dsimp only at hSw); go_simp) <;> with_reducible rfl
              try simp only [Act.put, List.setIfInBounds_toArray, List.set_cons_zero, List.set_cons_succ, List.getElem_toArray, List.getElem_cons_succ, List.getElem_cons_zero]
              refine wpAnyH_take (i := 3) (v := ?_) rfl (by kernel_rfl) (by kernel_rfl) (by kernel_rfl) (fun _ _ _ h => h) (Or.inl ⟨by rfl, ?_⟩) (by assumption) ?_
              rotate_left
              · (intro w hSw; (try dsimp only at hSw); go_simp) <;> with_reducible rfl
              try simp only [Act.put, List.setIfInBounds_toArray, List.set_cons_zero, List.set_cons_succ, List.getElem_toArray, List.getElem_cons_succ, List.getElem_cons_zero]
              refine wpAnyH_take (i := 5) (v := ?_) rfl (by kernel_rfl) (by kernel_rfl) (by kernel_rfl) (fun _ _ _ h => h) (Or.inl ⟨by rfl, ?_⟩) (by assumption) ?_
              rotate_left
              · (intro w hSw; (try dsimp only at hSw); go_simp) <;> with_reducible rfl
              try simp only [Act.put, List.setIfInBounds_toArray, List.set_cons_zero, List.set_cons_succ, List.getElem_toArray, List.getElem_cons_succ, List.getElem_cons_zero]
              refine wpAnyH_take (i := 6) (v := ?_) rfl (by kernel_rfl) (by kernel_rfl) (by kernel_rfl) (fun _ _ _ h => h) (Or.inl ⟨by rfl, ?_⟩) (by assumption) ?_
              rotate_left
              · (intro w hSw; (try dsimp only at hSw); go_simp) <;> with_reducible rfl
              try simp only [Act.put, List.setIfInBounds_toArray, List.set_cons_zero, List.set_cons_succ, List.getElem_toArray, List.getElem_cons_succ, List.getElem_cons_zero]
              refine wpAnyH_take (i := 7) (v := ?_) rfl (by kernel_rfl) (by kernel_rfl) (by kernel_rfl) (fun _ _ _ h => h) (Or.inl ⟨by rfl, ?_⟩) (by assumption) ?_
              rotate_left
              · (intro w hSw; (try dsimp only at hSw); go_simp) <;> with_reducible rfl
              try simp only [Act.put, List.setIfInBounds_toArray, List.set_cons_zero, List.set_cons_succ, List.getElem_toArray, List.getElem_cons_succ, List.getElem_cons_zero]
              refine wpAnyH_take (i := 8) (v := ?_) rfl (by kernel_rfl) (by kernel_rfl) (by kernel_rfl) (fun _ _ _ h => h) (Or.inl ⟨by rfl, ?_⟩) (by assumption) ?_
              rotate_left
              · (intro w hSw; (try dsimp only at hSw); go_simp) <;> with_reducible rfl
              try simp only [Act.put, List.setIfInBounds_toArray, List.set_cons_zero, List.set_cons_succ, List.getElem_toArray, List.getElem_cons_succ, List.getElem_cons_zero]
              refine wpAnyH_take (i := 11) (v := ?_) rfl (by kernel_rfl) (by kernel_rfl) (by kernel_rfl) (fun _ _ _ h => h) (Or.inl ⟨by rfl, ?_⟩) (by assumption) ?_
              rotate_left
              · (intro w hSw; (try dsimp only at hSw); go_simp) <;> with_reducible rfl
              try simp only [Act.put, List.setIfInBounds_toArray, List.set_cons_zero, List.set_cons_succ, List.getElem_toArray, List.getElem_cons_succ, List.getElem_cons_zero]
              refine wpAnyH_take (i := 12) (v := ?_) rfl (by kernel_rfl) (by kernel_rfl) (by kernel_rfl) (fun _ _ _ h => h) (Or.inl ⟨by rfl, ?_⟩) (by assumption) ?_
              rotate_left
              · (intro w hSw; (try dsimp only at hSw); go_simp) <;> with_reducible rfl
              try simp only [Act.put, List.setIfInBounds_toArray, List.set_cons_zero, List.set_cons_succ, List.getElem_toArray, List.getElem_cons_succ, List.getElem_cons_zero]
              refine wpAnyH_take (i := 13) (v := ?_) rfl (by kernel_rfl) (by kernel_rfl) (by kernel_rfl) (fun _ _ _ h => h) (Or.inl ⟨by rfl, ?_⟩) (by assumption) ?_
              rotate_left
              · (intro w hSw; (try dsimp only at hSw); go_simp) <;> with_reducible rfl
              try simp only [Act.put, List.setIfInBounds_toArray, List.set_cons_zero, List.set_cons_succ, List.getElem_toArray, List.getElem_cons_succ, List.getElem_cons_zero]
              refine wpAnyH_ready (rs := [0, 9]) (by kernel_rfl) (by simp) ?_
              refine (AllReadyH.cons rfl (fun K hK => ?_) (AllReadyH.cons rfl (fun K hK => ?_) AllReadyH.nil))
              · skip
                try dsimp only [List.getElem_toArray, List.getElem_cons_succ, List.getElem_cons_zero]
                go_simp
                refine hK.out _ _ ?_ (fun hHeld => ?_)
                · (try dsimp only); first | assumption | (exact (q6.cell (p := ⟨gy, _, none⟩) hgyn).trans zn0) | (exact (q5.cell (p := ⟨gy, _, none⟩) hgyn).trans zn0) | (exact (q4.cell (p := ⟨gy, _, none⟩) hgyn).trans zn0) | (exact ((q4.alloc q4.size _).cell (p := ⟨gy, _, none⟩) hgyn).trans zn0) | (exact ((below_drewN (Below.refl wn.heap.size wn) _).cell (p := ⟨gy, _, none⟩) hgyn).trans zn0) | (exact (((below_drewN (Below.refl wn.heap.size wn) _).alloc (by simp) _).cell (p := ⟨gy, _, none⟩) hgyn).trans zn0) | (exact ((((below_drewN (Below.refl wn.heap.size wn) _).alloc (by simp) _).alloc (by simp <;> omega) _).cell (p := ⟨gy, _, none⟩) hgyn).trans zn0) | go_keep
                clear hK K
                try simp only [Act.put, List.setIfInBounds_toArray, List.set_cons_zero, List.set_cons_succ, List.getElem_toArray, List.getElem_cons_succ, List.getElem_cons_zero]
                refine wpAnyH_ready (rs := [4, 9]) (by kernel_rfl) (by simp) ?_
                refine (AllReadyH.cons rfl (fun K hK => ?_) (AllReadyH.cons rfl (fun K hK => ?_) AllReadyH.nil))
                · skip
                  (refine step_append_sl _ (by rfl) (.tmp 37) (.tmp 40) _ (by rfl) wn.heap.size 2 i0 _ 1 8 Try.underlying29 hi hz0 hz1 hz2 rfl (by omega) (.slice (some ⟨_, 0, none⟩) 0 0) 0 [] (by rfl) (by first | exact own_empty' _ _ _ (by simp <;> omega) (by simp) | exact (own_empty' _ _ _ (by simp <;> omega) (by simp)).alloc _) _ q co ((intsRow O).take (q * 1)) (by rfl) (by first | exact Rd.alloc' (Rd.take (Rd.drewN (Rd.of_own Hon.out) _) hq) _ | exact Rd.alloc' (Rd.alloc' (Rd.take (Rd.drewN (Rd.of_own Hon.out) _) hq) _) _) (fun u hu => intsRow_one O u (List.mem_of_mem_take hu)) (by unfold maxLen; omega) (by omega) (by simp <;> omega) ?_; intro A4 c4 w4 ho4 hg4 hor4; simp only [Nat.zero_add, List.nil_append] at ho4 ⊢; have T4 := Lib.hid (World.ownsRow.lt ho4); have q4 : Below wn.heap.size wn w4 := (by first | exact Below.grown ((below_drewN (Below.refl _ _) _).alloc (by simp) _) hg4 (by simp <;> omega) (fun g hg => by simp [Value.ownBlock] at hg; omega) | exact Below.grown (((below_drewN (Below.refl _ _) _).alloc (by simp) _).alloc (by simp <;> omega) _) hg4 (by simp <;> omega) (fun g hg => by simp [Value.ownBlock] at hg; omega)))
                  refine hK.out _ _ ?_ (fun hHeld => ?_)
                  · (try dsimp only); first | assumption | (exact (q6.cell (p := ⟨gy, _, none⟩) hgyn).trans zn0) | (exact (q5.cell (p := ⟨gy, _, none⟩) hgyn).trans zn0) | (exact (q4.cell (p := ⟨gy, _, none⟩) hgyn).trans zn0) | (exact ((q4.alloc q4.size _).cell (p := ⟨gy, _, none⟩) hgyn).trans zn0) | (exact ((below_drewN (Below.refl wn.heap.size wn) _).cell (p := ⟨gy, _, none⟩) hgyn).trans zn0) | (exact (((below_drewN (Below.refl wn.heap.size wn) _).alloc (by simp) _).cell (p := ⟨gy, _, none⟩) hgyn).trans zn0) | (exact ((((below_drewN (Below.refl wn.heap.size wn) _).alloc (by simp) _).alloc (by simp <;> omega) _).cell (p := ⟨gy, _, none⟩) hgyn).trans zn0) | go_keep
                  clear hK K
                  try simp only [Act.put, List.setIfInBounds_toArray, List.set_cons_zero, List.set_cons_succ, List.getElem_toArray, List.getElem_cons_succ, List.getElem_cons_zero]
                  refine wpAnyH_ready (rs := [9]) (by kernel_rfl) (by simp) ?_
                  refine AllReadyH.cons rfl (fun K hK => ?_) AllReadyH.nil
                  try dsimp only [List.getElem_toArray, List.getElem_cons_succ, List.getElem_cons_zero]
                  go_simp
                  refine hK.out _ _ ?_ (fun hHeld => ?_)
                  · (try dsimp only); first | assumption | (exact (q6.cell (p := ⟨gy, _, none⟩) hgyn).trans zn0) | (exact (q5.cell (p := ⟨gy, _, none⟩) hgyn).trans zn0) | (exact (q4.cell (p := ⟨gy, _, none⟩) hgyn).trans zn0) | (exact ((q4.alloc q4.size _).cell (p := ⟨gy, _, none⟩) hgyn).trans zn0) | (exact ((below_drewN (Below.refl wn.heap.size wn) _).cell (p := ⟨gy, _, none⟩) hgyn).trans zn0) | (exact (((below_drewN (Below.refl wn.heap.size wn) _).alloc (by simp) _).cell (p := ⟨gy, _, none⟩) hgyn).trans zn0) | (exact ((((below_drewN (Below.refl wn.heap.size wn) _).alloc (by simp) _).alloc (by simp <;> omega) _).cell (p := ⟨gy, _, none⟩) hgyn).trans zn0) | go_keep
                  clear hK K
                  try simp only [Act.put, List.setIfInBounds_toArray, List.set_cons_zero, List.set_cons_succ, List.getElem_toArray, List.getElem_cons_succ, List.getElem_cons_zero]
                  refine wpAnyH_ready (rs := [10]) (by kernel_rfl) (by simp) ?_
                  refine AllReadyH.cons rfl (fun K hK => ?_) AllReadyH.nil
                  (refine step_append_sl _ (by rfl) (.tmp 41) (.tmp 46) _ (by rfl) wn.heap.size 2 i0 _ 1 8 Try.underlying29 hi hz0 hz1 hz2 rfl (by omega) (.slice A4 q c4) q ((intsRow O).take (q * 1)) (by rfl) (ho4.alloc _) (some _) 1 1 [.int .i64 y] (by rfl) (Rd.of_block (cs := #[.int .i64 y]) (heap_alloc_new _ _) rfl) (by intro x hx; simp at hx; subst hx; rfl) (by unfold maxLen; omega) (by omega) (by have := hg4.size; (try simp at this); simp <;> omega) ?_; intro A5 c5 w5 ho5 hg5 hor5; have T5 := Lib.hid (World.ownsRow.lt ho5); have q5 : Below wn.heap.size wn w5 := (q4.alloc q4.size _).grown hg5 (by have := hg4.size; (try simp at this); simp <;> omega) (fun g hg => (T4.out g hg).1))
                  refine hK.out _ _ ?_ (fun hHeld => ?_)
                  · (try dsimp only); first | assumption | (exact (q6.cell (p := ⟨gy, _, none⟩) hgyn).trans zn0) | (exact (q5.cell (p := ⟨gy, _, none⟩) hgyn).trans zn0) | (exact (q4.cell (p := ⟨gy, _, none⟩) hgyn).trans zn0) | (exact ((q4.alloc q4.size _).cell (p := ⟨gy, _, none⟩) hgyn).trans zn0) | (exact ((below_drewN (Below.refl wn.heap.size wn) _).cell (p := ⟨gy, _, none⟩) hgyn).trans zn0) | (exact (((below_drewN (Below.refl wn.heap.size wn) _).alloc (by simp) _).cell (p := ⟨gy, _, none⟩) hgyn).trans zn0) | (exact ((((below_drewN (Below.refl wn.heap.size wn) _).alloc (by simp) _).alloc (by simp <;> omega) _).cell (p := ⟨gy, _, none⟩) hgyn).trans zn0) | go_keep
                  clear hK K
                  try simp only [Act.put, List.setIfInBounds_toArray, List.set_cons_zero, List.set_cons_succ, List.getElem_toArray, List.getElem_cons_succ, List.getElem_cons_zero]
                  refine wpAnyH_ready (rs := [14]) (by kernel_rfl) (by simp) ?_
                  refine AllReadyH.cons rfl (fun K hK => ?_) AllReadyH.nil
                  (refine step_append_sl _ (by rfl) (.tmp 47) (.tmp 50) _ (by rfl) wn.heap.size 2 i0 _ 1 8 Try.underlying29 hi hz0 hz1 hz2 rfl (by omega) (.slice A5 (q + 1) c5) (q + 1) ((intsRow O).take (q * 1) ++ [.int .i64 y]) (by rfl) ho5 _ (O.length - q) (co - q) ((intsRow O).drop q) (by rfl) (by have z := (Rd.below (Rd.cut1 RD.out hq hco1) q5 (Nat.le_refl _)).more q5.size; first | exact z | (rw [cut_addr1] at z; first | exact z | (rw [Nat.zero_add] at z; exact z))) (fun u hu => intsRow_one O u (List.mem_of_mem_drop hu)) (by unfold maxLen; omega) (by omega) q5.size ?_; intro A6 c6 w6 ho6 hg6 hor6; have T6 := Lib.hid (World.ownsRow.lt ho6); have q6 : Below wn.heap.size wn w6 := q5.grown hg6 q5.size (fun g hg => (T5.out g hg).1))
                  refine hK.out _ _ ?_ (fun hHeld => ?_)
                  · (try dsimp only); first | assumption | (exact (q6.cell (p := ⟨gy, _, none⟩) hgyn).trans zn0) | (exact (q5.cell (p := ⟨gy, _, none⟩) hgyn).trans zn0) | (exact (q4.cell (p := ⟨gy, _, none⟩) hgyn).trans zn0) | (exact ((q4.alloc q4.size _).cell (p := ⟨gy, _, none⟩) hgyn).trans zn0) | (exact ((below_drewN (Below.refl wn.heap.size wn) _).cell (p := ⟨gy, _, none⟩) hgyn).trans zn0) | (exact (((below_drewN (Below.refl wn.heap.size wn) _).alloc (by simp) _).cell (p := ⟨gy, _, none⟩) hgyn).trans zn0) | (exact ((((below_drewN (Below.refl wn.heap.size wn) _).alloc (by simp) _).alloc (by simp <;> omega) _).cell (p := ⟨gy, _, none⟩) hgyn).trans zn0) | go_keep
                  clear hK K
                  try simp only [Act.put, List.setIfInBounds_toArray, List.set_cons_zero, List.set_cons_succ, List.getElem_toArray, List.getElem_cons_succ, List.getElem_cons_zero]
                  refine wpAnyH_take (i := 15) (v := ?_) rfl (by kernel_rfl) (by kernel_rfl) (by kernel_rfl) (fun _ _ _ h => h) (Or.inl ⟨by rfl, ?_⟩) (by assumption) ?_
                  rotate_left
                  · (intro w hSw; (try dsimp only at hSw); go_simp) <;> with_reducible rfl
                  try simp only [Act.put, List.setIfInBounds_toArray, List.set_cons_zero, List.set_cons_succ, List.getElem_toArray, List.getElem_cons_succ, List.getElem_cons_zero]
                  refine wpAnyH_done (by kernel_rfl) ?_ _
                  have Hb9 := Lib.hid (Hbn.out.trans (q6.mono hszn))
                  have Ho9 : Hid (w6.ownsRow w.heap.size 2 1 (.slice A6 (q + 1 + (O.length - q)) c6) (q + 1 + (O.length - q)) (intsRow (O.take q ++ y :: O.drop q))) := by rw [intsRow_ins O y q, ← HT1.out]; exact Lib.hid (own_base ho6 hszn)
                  have HLL : Hid ((O.take q ++ y :: O.drop q).length = q + 1 + (O.length - q)) := Lib.hid (by simp [List.length_take]; omega)
                  clear ho4 hg4 hor4 ho5 hg5 hor5 ho6 hg6 hor6
                  go_wp2
                  go_roundw
                  case rel => exact ⟨O.take q ++ y :: O.drop q, A6, c6, k + 1, by rw [HLL.out], by go_num, by omega, by rw [HLL.out]; omega, by rw [HLL.out]; exact Ho9.out, by first | exact Hb9.out | exact Hb9.out.drew⟩
                  case measure => simp [intOf]; omega
                · skip
                  try dsimp only [List.getElem_toArray, List.getElem_cons_succ, List.getElem_cons_zero]
                  go_simp
                  refine hK.out _ _ ?_ (fun hHeld => ?_)
                  · (try dsimp only); first | assumption | (exact (q6.cell (p := ⟨gy, _, none⟩) hgyn).trans zn0) | (exact (q5.cell (p := ⟨gy, _, none⟩) hgyn).trans zn0) | (exact (q4.cell (p := ⟨gy, _, none⟩) hgyn).trans zn0) | (exact ((q4.alloc q4.size _).cell (p := ⟨gy, _, none⟩) hgyn).trans zn0) | (exact ((below_drewN (Below.refl wn.heap.size wn) _).cell (p := ⟨gy, _, none⟩) hgyn).trans zn0) | (exact (((below_drewN (Below.refl wn.heap.size wn) _).alloc (by simp) _).cell (p := ⟨gy, _, none⟩) hgyn).trans zn0) | (exact ((((below_drewN (Below.refl wn.heap.size wn) _).alloc (by simp) _).alloc (by simp <;> omega) _).cell (p := ⟨gy, _, none⟩) hgyn).trans zn0) | go_keep
                  clear hK K
                  try simp only [Act.put, List.setIfInBounds_toArray, List.set_cons_zero, List.set_cons_succ, List.getElem_toArray, List.getElem_cons_succ, List.getElem_cons_zero]
                  refine wpAnyH_ready (rs := [4]) (by kernel_rfl) (by simp) ?_
                  refine AllReadyH.cons rfl (fun K hK => ?_) AllReadyH.nil
                  (refine step_append_sl _ (by rfl) (.tmp 37) (.tmp 40) _ (by rfl) wn.heap.size 2 i0 _ 1 8 Try.underlying29 hi hz0 hz1 hz2 rfl (by omega) (.slice (some ⟨_, 0, none⟩) 0 0) 0 [] (by rfl) (by first | exact own_empty' _ _ _ (by simp <;> omega) (by simp) | exact (own_empty' _ _ _ (by simp <;> omega) (by simp)).alloc _) _ q co ((intsRow O).take (q * 1)) (by rfl) (by first | exact Rd.alloc' (Rd.take (Rd.drewN (Rd.of_own Hon.out) _) hq) _ | exact Rd.alloc' (Rd.alloc' (Rd.take (Rd.drewN (Rd.of_own Hon.out) _) hq) _) _) (fun u hu => intsRow_one O u (List.mem_of_mem_take hu)) (by unfold maxLen; omega) (by omega) (by simp <;> omega) ?_; intro A4 c4 w4 ho4 hg4 hor4; simp only [Nat.zero_add, List.nil_append] at ho4 ⊢; have T4 := Lib.hid (World.ownsRow.lt ho4); have q4 : Below wn.heap.size wn w4 := (by first | exact Below.grown ((below_drewN (Below.refl _ _) _).alloc (by simp) _) hg4 (by simp <;> omega) (fun g hg => by simp [Value.ownBlock] at hg; omega) | exact Below.grown (((below_drewN (Below.refl _ _) _).alloc (by simp) _).alloc (by simp <;> omega) _) hg4 (by simp <;> omega) (fun g hg => by simp [Value.ownBlock] at hg; omega)))
                  refine hK.out _ _ ?_ (fun hHeld => ?_)
                  · (try dsimp only); first | assumption | (exact (q6.cell (p := ⟨gy, _, none⟩) hgyn).trans zn0) | (exact (q5.cell (p := ⟨gy, _, none⟩) hgyn).trans zn0) | (exact (q4.cell (p := ⟨gy, _, none⟩) hgyn).trans zn0) | (exact ((q4.alloc q4.size _).cell (p := ⟨gy, _, none⟩) hgyn).trans zn0) | (exact ((below_drewN (Below.refl wn.heap.size wn) _).cell (p := ⟨gy, _, none⟩) hgyn).trans zn0) | (exact (((below_drewN (Below.refl wn.heap.size wn) _).alloc (by simp) _).cell (p := ⟨gy, _, none⟩) hgyn).trans zn0) | (exact ((((below_drewN (Below.refl wn.heap.size wn) _).alloc (by simp) _).alloc (by simp <;> omega) _).cell (p := ⟨gy, _, none⟩) hgyn).trans zn0) | go_keep
                  clear hK K
                  try simp only [Act.put, List.setIfInBounds_toArray, List.set_cons_zero, List.set_cons_succ, List.getElem_toArray, List.getElem_cons_succ, List.getElem_cons_zero]
                  refine wpAnyH_ready (rs := [10]) (by kernel_rfl) (by simp) ?_
                  refine AllReadyH.cons rfl (fun K hK => ?_) AllReadyH.nil
                  (refine step_append_sl _ (by rfl) (.tmp 41) (.tmp 46) _ (by rfl) wn.heap.size 2 i0 _ 1 8 Try.underlying29 hi hz0 hz1 hz2 rfl (by omega) (.slice A4 q c4) q ((intsRow O).take (q * 1)) (by rfl) ho4 (some _) 1 1 [.int .i64 y] (by rfl) (by first | exact Rd.of_block (cs := #[.int .i64 y]) ((hg4.block _ (by simp <;> omega) (by simp [Value.ownBlock] <;> omega)).trans (heap_alloc2_new _ _ _)) rfl | exact Rd.of_block (cs := #[.int .i64 y]) ((hg4.block _ (by simp <;> omega) (by simp [Value.ownBlock] <;> omega)).trans (heap_alloc2_old _ _ _)) rfl) (by intro x hx; simp at hx; subst hx; rfl) (by unfold maxLen; omega) (by omega) (by have := hg4.size; (try simp at this); simp <;> omega) ?_; intro A5 c5 w5 ho5 hg5 hor5; have T5 := Lib.hid (World.ownsRow.lt ho5); have q5 : Below wn.heap.size wn w5 := q4.grown hg5 q4.size (fun g hg => (T4.out g hg).1))
                  refine hK.out _ _ ?_ (fun hHeld => ?_)
                  · (try dsimp only); first | assumption | (exact (q6.cell (p := ⟨gy, _, none⟩) hgyn).trans zn0) | (exact (q5.cell (p := ⟨gy, _, none⟩) hgyn).trans zn0) | (exact (q4.cell (p := ⟨gy, _, none⟩) hgyn).trans zn0) | (exact ((q4.alloc q4.size _).cell (p := ⟨gy, _, none⟩) hgyn).trans zn0) | (exact ((below_drewN (Below.refl wn.heap.size wn) _).cell (p := ⟨gy, _, none⟩) hgyn).trans zn0) | (exact (((below_drewN (Below.refl wn.heap.size wn) _).alloc (by simp) _).cell (p := ⟨gy, _, none⟩) hgyn).trans zn0) | (exact ((((below_drewN (Below.refl wn.heap.size wn) _).alloc (by simp) _).alloc (by simp <;> omega) _).cell (p := ⟨gy, _, none⟩) hgyn).trans zn0) | go_keep
                  clear hK K
                  try simp only [Act.put, List.setIfInBounds_toArray, List.set_cons_zero, List.set_cons_succ, List.getElem_toArray, List.getElem_cons_succ, List.getElem_cons_zero]
                  refine wpAnyH_ready (rs := [14]) (by kernel_rfl) (by simp) ?_
                  refine AllReadyH.cons rfl (fun K hK => ?_) AllReadyH.nil
                  (refine step_append_sl _ (by rfl) (.tmp 47) (.tmp 50) _ (by rfl) wn.heap.size 2 i0 _ 1 8 Try.underlying29 hi hz0 hz1 hz2 rfl (by omega) (.slice A5 (q + 1) c5) (q + 1) ((intsRow O).take (q * 1) ++ [.int .i64 y]) (by rfl) ho5 _ (O.length - q) (co - q) ((intsRow O).drop q) (by rfl) (by have z := (Rd.below (Rd.cut1 RD.out hq hco1) q5 (Nat.le_refl _)).more q5.size; first | exact z | (rw [cut_addr1] at z; first | exact z | (rw [Nat.zero_add] at z; exact z))) (fun u hu => intsRow_one O u (List.mem_of_mem_drop hu)) (by unfold maxLen; omega) (by omega) q5.size ?_; intro A6 c6 w6 ho6 hg6 hor6; have T6 := Lib.hid (World.ownsRow.lt ho6); have q6 : Below wn.heap.size wn w6 := q5.grown hg6 q5.size (fun g hg => (T5.out g hg).1))
                  refine hK.out _ _ ?_ (fun hHeld => ?_)
                  · (try dsimp only); first | assumption | (exact (q6.cell (p := ⟨gy, _, none⟩) hgyn).trans zn0) | (exact (q5.cell (p := ⟨gy, _, none⟩) hgyn).trans zn0) | (exact (q4.cell (p := ⟨gy, _, none⟩) hgyn).trans zn0) | (exact ((q4.alloc q4.size _).cell (p := ⟨gy, _, none⟩) hgyn).trans zn0) | (exact ((below_drewN (Below.refl wn.heap.size wn) _).cell (p := ⟨gy, _, none⟩) hgyn).trans zn0) | (exact (((below_drewN (Below.refl wn.heap.size wn) _).alloc (by simp) _).cell (p := ⟨gy, _, none⟩) hgyn).trans zn0) | (exact ((((below_drewN (Below.refl wn.heap.size wn) _).alloc (by simp) _).alloc (by simp <;> omega) _).cell (p := ⟨gy, _, none⟩) hgyn).trans zn0) | go_keep
                  clear hK K
                  try simp only [Act.put, List.setIfInBounds_toArray, List.set_cons_zero, List.set_cons_succ, List.getElem_toArray, List.getElem_cons_succ, List.getElem_cons_zero]
                  refine wpAnyH_take (i := 15) (v := ?_) rfl (by kernel_rfl) (by kernel_rfl) (by kernel_rfl) (fun _ _ _ h => h) (Or.inl ⟨by rfl, ?_⟩) (by assumption) ?_
                  rotate_left
                  · (intro w hSw; (try dsimp only at hSw); go_simp) <;> with_reducible rfl
                  try simp only [Act.put, List.setIfInBounds_toArray, List.set_cons_zero, List.set_cons_succ, List.getElem_toArray, List.getElem_cons_succ, List.getElem_cons_zero]
                  refine wpAnyH_done (by kernel_rfl) ?_ _
                  have Hb9 := Lib.hid (Hbn.out.trans (q6.mono hszn))
                  have Ho9 : Hid (w6.ownsRow w.heap.size 2 1 (.slice A6 (q + 1 + (O.length - q)) c6) (q + 1 + (O.length - q)) (intsRow (O.take q ++ y :: O.drop q))) := by rw [intsRow_ins O y q, ← HT1.out]; exact Lib.hid (own_base ho6 hszn)
                  have HLL : Hid ((O.take q ++ y :: O.drop q).length = q + 1 + (O.length - q)) := Lib.hid (by simp [List.length_take]; omega)
                  clear ho4 hg4 hor4 ho5 hg5 hor5 ho6 hg6 hor6
                  go_wp2
                  go_roundw
                  case rel => exact ⟨O.take q ++ y :: O.drop q, A6, c6, k + 1, by rw [HLL.out], by go_num, by omega, by rw [HLL.out]; omega, by rw [HLL.out]; exact Ho9.out, by first | exact Hb9.out | exact Hb9.out.drew⟩
                  case measure => simp [intOf]; omega
              · skip
                try dsimp only [List.getElem_toArray, List.getElem_cons_succ, List.getElem_cons_zero]
                go_simp
                refine hK.out _ _ ?_ (fun hHeld => ?_)
                · (try dsimp only); first | assumption | (exact (q6.cell (p := ⟨gy, _, none⟩) hgyn).trans zn0) | (exact (q5.cell (p := ⟨gy, _, none⟩) hgyn).trans zn0) | (exact (q4.cell (p := ⟨gy, _, none⟩) hgyn).trans zn0) | (exact ((q4.alloc q4.size _).cell (p := ⟨gy, _, none⟩) hgyn).trans zn0) | (exact ((below_drewN (Below.refl wn.heap.size wn) _).cell (p := ⟨gy, _, none⟩) hgyn).trans zn0) | (exact (((below_drewN (Below.refl wn.heap.size wn) _).alloc (by simp) _).cell (p := ⟨gy, _, none⟩) hgyn).trans zn0) | (exact ((((below_drewN (Below.refl wn.heap.size wn) _).alloc (by simp) _).alloc (by simp <;> omega) _).cell (p := ⟨gy, _, none⟩) hgyn).trans zn0) | go_keep
                clear hK K
                try simp only [Act.put, List.setIfInBounds_toArray, List.set_cons_zero, List.set_cons_succ, List.getElem_toArray, List.getElem_cons_succ, List.getElem_cons_zero]
                refine wpAnyH_ready (rs := [0]) (by kernel_rfl) (by simp) ?_
                refine AllReadyH.cons rfl (fun K hK => ?_) AllReadyH.nil
                try dsimp only [List.getElem_toArray, List.getElem_cons_succ, List.getElem_cons_zero]
                go_simp
                refine hK.out _ _ ?_ (fun hHeld => ?_)
                · (try dsimp only); first | assumption | (exact (q6.cell (p := ⟨gy, _, none⟩) hgyn).trans zn0) | (exact (q5.cell (p := ⟨gy, _, none⟩) hgyn).trans zn0) | (exact (q4.cell (p := ⟨gy, _, none⟩) hgyn).trans zn0) | (exact ((q4.alloc q4.size _).cell (p := ⟨gy, _, none⟩) hgyn).trans zn0) | (exact ((below_drewN (Below.refl wn.heap.size wn) _).cell (p := ⟨gy, _, none⟩) hgyn).trans zn0) | (exact (((below_drewN (Below.refl wn.heap.size wn) _).alloc (by simp) _).cell (p := ⟨gy, _, none⟩) hgyn).trans zn0) | (exact ((((below_drewN (Below.refl wn.heap.size wn) _).alloc (by simp) _).alloc (by simp <;> omega) _).cell (p := ⟨gy, _, none⟩) hgyn).trans zn0) | go_keep
                clear hK K
                try simp only [Act.put, List.setIfInBounds_toArray, List.set_cons_zero, List.set_cons_succ, List.getElem_toArray, List.getElem_cons_succ, List.getElem_cons_zero]
                refine wpAnyH_ready (rs := [4]) (by kernel_rfl) (by simp) ?_
                refine AllReadyH.cons rfl (fun K hK => ?_) AllReadyH.nil
                (refine step_append_sl _ (by rfl) (.tmp 37) (.tmp 40) _ (by rfl) wn.heap.size 2 i0 _ 1 8 Try.underlying29 hi hz0 hz1 hz2 rfl (by omega) (.slice (some ⟨_, 0, none⟩) 0 0) 0 [] (by rfl) (by first | exact own_empty' _ _ _ (by simp <;> omega) (by simp) | exact (own_empty' _ _ _ (by simp <;> omega) (by simp)).alloc _) _ q co ((intsRow O).take (q * 1)) (by rfl) (by first | exact Rd.alloc' (Rd.take (Rd.drewN (Rd.of_own Hon.out) _) hq) _ | exact Rd.alloc' (Rd.alloc' (Rd.take (Rd.drewN (Rd.of_own Hon.out) _) hq) _) _) (fun u hu => intsRow_one O u (List.mem_of_mem_take hu)) (by unfold maxLen; omega) (by omega) (by simp <;> omega) ?_; intro A4 c4 w4 ho4 hg4 hor4; simp only [Nat.zero_add, List.nil_append] at ho4 ⊢; have T4 := Lib.hid (World.ownsRow.lt ho4); have q4 : Below wn.heap.size wn w4 := (by first | exact Below.grown ((below_drewN (Below.refl _ _) _).alloc (by simp) _) hg4 (by simp <;> omega) (fun g hg => by simp [Value.ownBlock] at hg; omega) | exact Below.grown (((below_drewN (Below.refl _ _) _).alloc (by simp) _).alloc (by simp <;> omega) _) hg4 (by simp <;> omega) (fun g hg => by simp [Value.ownBlock] at hg; omega)))
                refine hK.out _ _ ?_ (fun hHeld => ?_)
                · (try dsimp only); first | assumption | (exact (q6.cell (p := ⟨gy, _, none⟩) hgyn).trans zn0) | (exact (q5.cell (p := ⟨gy, _, none⟩) hgyn).trans zn0) | (exact (q4.cell (p := ⟨gy, _, none⟩) hgyn).trans zn0) | (exact ((q4.alloc q4.size _).cell (p := ⟨gy, _, none⟩) hgyn).trans zn0) | (exact ((below_drewN (Below.refl wn.heap.size wn) _).cell (p := ⟨gy, _, none⟩) hgyn).trans zn0) | (exact (((below_drewN (Below.refl wn.heap.size wn) _).alloc (by simp) _).cell (p := ⟨gy, _, none⟩) hgyn).trans zn0) | (exact ((((below_drewN (Below.refl wn.heap.size wn) _).alloc (by simp) _).alloc (by simp <;> omega) _).cell (p := ⟨gy, _, none⟩) hgyn).trans zn0) | go_keep
                clear hK K
                try simp only [Act.put, List.setIfInBounds_toArray, List.set_cons_zero, List.set_cons_succ, List.getElem_toArray, List.getElem_cons_succ, List.getElem_cons_zero]
                refine wpAnyH_ready (rs := [10]) (by kernel_rfl) (by simp) ?_
                refine AllReadyH.cons rfl (fun K hK => ?_) AllReadyH.nil
                (refine step_append_sl _ (by rfl) (.tmp 41) (.tmp 46) _ (by rfl) wn.heap.size 2 i0 _ 1 8 Try.underlying29 hi hz0 hz1 hz2 rfl (by omega) (.slice A4 q c4) q ((intsRow O).take (q * 1)) (by rfl) ho4 (some _) 1 1 [.int .i64 y] (by rfl) (by first | exact Rd.of_block (cs := #[.int .i64 y]) ((hg4.block _ (by simp <;> omega) (by simp [Value.ownBlock] <;> omega)).trans (heap_alloc2_new _ _ _)) rfl | exact Rd.of_block (cs := #[.int .i64 y]) ((hg4.block _ (by simp <;> omega) (by simp [Value.ownBlock] <;> omega)).trans (heap_alloc2_old _ _ _)) rfl) (by intro x hx; simp at hx; subst hx; rfl) (by unfold maxLen; omega) (by omega) (by have := hg4.size; (try simp at this); simp <;> omega) ?_; intro A5 c5 w5 ho5 hg5 hor5; have T5 := Lib.hid (World.ownsRow.lt ho5); have q5 : Below wn.heap.size wn w5 := q4.grown hg5 q4.size (fun g hg => (T4.out g hg).1))
                refine hK.out _ _ ?_ (fun hHeld => ?_)
                · (try dsimp only); first | assumption | (exact (q6.cell (p := ⟨gy, _, none⟩) hgyn).trans zn0) | (exact (q5.cell (p := ⟨gy, _, none⟩) hgyn).trans zn0) | (exact (q4.cell (p := ⟨gy, _, none⟩) hgyn).trans zn0) | (exact ((q4.alloc q4.size _).cell (p := ⟨gy, _, none⟩) hgyn).trans zn0) | (exact ((below_drewN (Below.refl wn.heap.size wn) _).cell (p := ⟨gy, _, none⟩) hgyn).trans zn0) | (exact (((below_drewN (Below.refl wn.heap.size wn) _).alloc (by simp) _).cell (p := ⟨gy, _, none⟩) hgyn).trans zn0) | (exact ((((below_drewN (Below.refl wn.heap.size wn) _).alloc (by simp) _).alloc (by simp <;> omega) _).cell (p := ⟨gy, _, none⟩) hgyn).trans zn0) | go_keep
                clear hK K
                try simp only [Act.put, List.setIfInBounds_toArray, List.set_cons_zero, List.set_cons_succ, List.getElem_toArray, List.getElem_cons_succ, List.getElem_cons_zero]
                refine wpAnyH_ready (rs := [14]) (by kernel_rfl) (by simp) ?_
                refine AllReadyH.cons rfl (fun K hK => ?_) AllReadyH.nil
                (refine step_append_sl _ (by rfl) (.tmp 47) (.tmp 50) _ (by rfl) wn.heap.size 2 i0 _ 1 8 Try.underlying29 hi hz0 hz1 hz2 rfl (by omega) (.slice A5 (q + 1) c5) (q + 1) ((intsRow O).take (q * 1) ++ [.int .i64 y]) (by rfl) ho5 _ (O.length - q) (co - q) ((intsRow O).drop q) (by rfl) (by have z := (Rd.below (Rd.cut1 RD.out hq hco1) q5 (Nat.le_refl _)).more q5.size; first | exact z | (rw [cut_addr1] at z; first | exact z | (rw [Nat.zero_add] at z; exact z))) (fun u hu => intsRow_one O u (List.mem_of_mem_drop hu)) (by unfold maxLen; omega) (by omega) q5.size ?_; intro A6 c6 w6 ho6 hg6 hor6; have T6 := Lib.hid (World.ownsRow.lt ho6); have q6 : Below wn.heap.size wn w6 := q5.grown hg6 q5.size (fun g hg => (T5.out g hg).1))
                refine hK.out _ _ ?_ (fun hHeld => ?_)
                · (try dsimp only); first | assumption | (exact (q6.cell (p := ⟨gy, _, none⟩) hgyn).trans zn0) | (exact (q5.cell (p := ⟨gy, _, none⟩) hgyn).trans zn0) | (exact (q4.cell (p := ⟨gy, _, none⟩) hgyn).trans zn0) | (exact ((q4.alloc q4.size _).cell (p := ⟨gy, _, none⟩) hgyn).trans zn0) | (exact ((below_drewN (Below.refl wn.heap.size wn) _).cell (p := ⟨gy, _, none⟩) hgyn).trans zn0) | (exact (((below_drewN (Below.refl wn.heap.size wn) _).alloc (by simp) _).cell (p := ⟨gy, _, none⟩) hgyn).trans zn0) | (exact ((((below_drewN (Below.refl wn.heap.size wn) _).alloc (by simp) _).alloc (by simp <;> omega) _).cell (p := ⟨gy, _, none⟩) hgyn).trans zn0) | go_keep
                clear hK K
                try simp only [Act.put, List.setIfInBounds_toArray, List.set_cons_zero, List.set_cons_succ, List.getElem_toArray, List.getElem_cons_succ, List.getElem_cons_zero]
                refine wpAnyH_take (i := 15) (v := ?_) rfl (by kernel_rfl) (by kernel_rfl) (by kernel_rfl) (fun _ _ _ h => h) (Or.inl ⟨by rfl, ?_⟩) (by assumption) ?_
                rotate_left
                · (intro w hSw; (try dsimp only at hSw); go_simp) <;> with_reducible rfl
                try simp only [Act.put, List.setIfInBounds_toArray, List.set_cons_zero, List.set_cons_succ, List.getElem_toArray, List.getElem_cons_succ, List.getElem_cons_zero]
                refine wpAnyH_done (by kernel_rfl) ?_ _
                have Hb9 := Lib.hid (Hbn.out.trans (q6.mono hszn))
                have Ho9 : Hid (w6.ownsRow w.heap.size 2 1 (.slice A6 (q + 1 + (O.length - q)) c6) (q + 1 + (O.length - q)) (intsRow (O.take q ++ y :: O.drop q))) := by rw [intsRow_ins O y q, ← HT1.out]; exact Lib.hid (own_base ho6 hszn)
                have HLL : Hid ((O.take q ++ y :: O.drop q).length = q + 1 + (O.length - q)) := Lib.hid (by simp [List.length_take]; omega)
                clear ho4 hg4 hor4 ho5 hg5 hor5 ho6 hg6 hor6
                go_wp2
                go_roundw
                case rel => exact ⟨O.take q ++ y :: O.drop q, A6, c6, k + 1, by rw [HLL.out], by go_num, by omega, by rw [HLL.out]; omega, by rw [HLL.out]; exact Ho9.out, by first | exact Hb9.out | exact Hb9.out.drew⟩
                case measure => simp [intOf]; omega
          · have hq2 : q = O.length := by omega
            have jq1 : ¬ (q : Int) < (O.length : Int) := by omega
            have Hq2 := Lib.hid hq2
            clear hq2
            go_wp2
            refine wp_region_held_drew (S := (fun _ => True)) (by kernel_rfl) ?_ (fun hHeld => ?_)
            · (try dsimp only); first | done | trivial
            refine wpAnyH_take (i := 0) (v := ?_) rfl (by kernel_rfl) (by kernel_rfl) (by kernel_rfl) (fun _ _ _ h => h) (Or.inl ⟨by rfl, ?_⟩) (by assumption) ?_
            rotate_left
            · (intro w hSw; (try dsimp only at hSw); go_simp) <;> with_reducible rfl
            try simp only [Act.put, List.setIfInBounds_toArray, List.set_cons_zero, List.set_cons_succ, List.getElem_toArray, List.getElem_cons_succ, List.getElem_cons_zero]
            refine wpAnyH_take (i := 1) (v := ?_) rfl (by kernel_rfl) (by kernel_rfl) (by kernel_rfl) (fun _ _ _ h => h) (Or.inl ⟨by rfl, ?_⟩) (by assumption) ?_
            rotate_left
            · (intro w hSw; (try dsimp only at hSw); go_simp) <;> with_reducible rfl
            try simp only [Act.put, List.setIfInBounds_toArray, List.set_cons_zero, List.set_cons_succ, List.getElem_toArray, List.getElem_cons_succ, List.getElem_cons_zero]
            refine wpAnyH_take (i := 2) (v := ?_) rfl (by kernel_rfl) (by kernel_rfl) (by kernel_rfl) (fun _ _ _ h => h) (Or.inl ⟨by rfl, ?_⟩) (by assumption) ?_
            rotate_left
            · (intro w hSw; (try dsimp only at hSw); go_simp) <;> with_reducible rfl
            try simp only [Act.put, List.setIfInBounds_toArray, List.set_cons_zero, List.set_cons_succ, List.getElem_toArray, List.getElem_cons_succ, List.getElem_cons_zero]
            refine wpAnyH_take (i := 3) (v := ?_) rfl (by kernel_rfl) (by kernel_rfl) (by kernel_rfl) (fun _ _ _ h => h) (Or.inl ⟨by rfl, ?_⟩) (by assumption) ?_
            rotate_left
            · (intro w hSw; (try dsimp only at hSw); go_simp) <;> with_reducible rfl
            try simp only [Act.put, List.setIfInBounds_toArray, List.set_cons_zero, List.set_cons_succ, List.getElem_toArray, List.getElem_cons_succ, List.getElem_cons_zero]
            refine wpAnyH_take (i := 4) (v := ?_) rfl (by kernel_rfl) (by kernel_rfl) (by kernel_rfl) (fun _ _ _ h => h) (Or.inl ⟨by rfl, ?_⟩) (by assumption) ?_
            rotate_left
            · (intro w hSw; (try dsimp only at hSw); go_simp) <;> with_reducible rfl
            try simp only [Act.put, List.setIfInBounds_toArray, List.set_cons_zero, List.set_cons_succ, List.getElem_toArray, List.getElem_cons_succ, List.getElem_cons_zero]
            refine wpAnyH_take (i := 5) (v := undef) rfl (by kernel_rfl) (by kernel_rfl) (by kernel_rfl) (fun _ _ _ h => h) (Or.inr ⟨by rfl, rfl⟩) (by assumption) ?_
            try simp only [Act.put, List.setIfInBounds_toArray, List.set_cons_zero, List.set_cons_succ, List.getElem_toArray, List.getElem_cons_succ, List.getElem_cons_zero]
            refine wpAnyH_take (i := 6) (v := undef) rfl (by kernel_rfl) (by kernel_rfl) (by kernel_rfl) (fun _ _ _ h => h) (Or.inr ⟨by rfl, rfl⟩) (by assumption) ?_
            try simp only [Act.put, List.setIfInBounds_toArray, List.set_cons_zero, List.set_cons_succ, List.getElem_toArray, List.getElem_cons_succ, List.getElem_cons_zero]
            refine wpAnyH_take (i := 7) (v := undef) rfl (by kernel_rfl) (by kernel_rfl) (by kernel_rfl) (fun _ _ _ h => h) (Or.inr ⟨by rfl, rfl⟩) (by assumption) ?_
            try simp only [Act.put, List.setIfInBounds_toArray, List.set_cons_zero, List.set_cons_succ, List.getElem_toArray, List.getElem_cons_succ, List.getElem_cons_zero]
            refine wpAnyH_take (i := 8) (v := undef) rfl (by kernel_rfl) (by kernel_rfl) (by kernel_rfl) (fun _ _ _ h => h) (Or.inr ⟨by rfl, rfl⟩) (by assumption) ?_
            try simp only [Act.put, List.setIfInBounds_toArray, List.set_cons_zero, List.set_cons_succ, List.getElem_toArray, List.getElem_cons_succ, List.getElem_cons_zero]
            refine wpAnyH_take (i := 9) (v := undef) rfl (by kernel_rfl) (by kernel_rfl) (by kernel_rfl) (fun _ _ _ h => h) (Or.inr ⟨by rfl, rfl⟩) (by assumption) ?_
            try simp only [Act.put, List.setIfInBounds_toArray, List.set_cons_zero, List.set_cons_succ, List.getElem_toArray, List.getElem_cons_succ, List.getElem_cons_zero]
            refine wpAnyH_take (i := 10) (v := undef) rfl (by kernel_rfl) (by kernel_rfl) (by kernel_rfl) (fun _ _ _ h => h) (Or.inr ⟨by rfl, rfl⟩) (by assumption) ?_
            try simp only [Act.put, List.setIfInBounds_toArray, List.set_cons_zero, List.set_cons_succ, List.getElem_toArray, List.getElem_cons_succ, List.getElem_cons_zero]
            refine wpAnyH_take (i := 11) (v := undef) rfl (by kernel_rfl) (by kernel_rfl) (by kernel_rfl) (fun _ _ _ h => h) (Or.inr ⟨by rfl, rfl⟩) (by assumption) ?_
            try simp only [Act.put, List.setIfInBounds_toArray, List.set_cons_zero, List.set_cons_succ, List.getElem_toArray, List.getElem_cons_succ, List.getElem_cons_zero]
            refine wpAnyH_take (i := 12) (v := undef) rfl (by kernel_rfl) (by kernel_rfl) (by kernel_rfl) (fun _ _ _ h => h) (Or.inr ⟨by rfl, rfl⟩) (by assumption) ?_
            try simp only [Act.put, List.setIfInBounds_toArray, List.set_cons_zero, List.set_cons_succ, List.getElem_toArray, List.getElem_cons_succ, List.getElem_cons_zero]
            refine wpAnyH_take (i := 13) (v := undef) rfl (by kernel_rfl) (by kernel_rfl) (by kernel_rfl) (fun _ _ _ h => h) (Or.inr ⟨by rfl, rfl⟩) (by assumption) ?_
            try simp only [Act.put, List.setIfInBounds_toArray, List.set_cons_zero, List.set_cons_succ, List.getElem_toArray, List.getElem_cons_succ, List.getElem_cons_zero]
            refine wpAnyH_take (i := 14) (v := ?_) rfl (by kernel_rfl) (by kernel_rfl) (by kernel_rfl) (fun _ _ _ h => h) (Or.inl ⟨by rfl, ?_⟩) (by assumption) ?_
            rotate_left
            · (intro w hSw; (try dsimp only at hSw); go_simp) <;> with_reducible rfl
            try simp only [Act.put, List.setIfInBounds_toArray, List.set_cons_zero, List.set_cons_succ, List.getElem_toArray, List.getElem_cons_succ, List.getElem_cons_zero]
            refine wpAnyH_done (by kernel_rfl) ?_ _
            obtain ⟨wn, hwn⟩ : ∃ wn, wn = wr.drew := ⟨_, rfl⟩
            rw [← hwn]
            have Hon := Lib.hid (show wn.ownsRow w.heap.size 2 1 (.slice _ O.length co) O.length (intsRow O) by rw [hwn]; exact Hot.out)
            have Hbn : Hid (Below w.heap.size w wn) := by rw [hwn]; exact Lib.hid (Hbt.out.drew)
            have hszn := Hbn.out.size
            have zn0 : wn.cell? ⟨gy, oy + k, none⟩ = some (.int .i64 y) := by rw [hwn]; exact z0
            have hgyn : gy < wn.heap.size := block_lt_cell zn0
            clear hwn
            have jq2 : (0 : Int) ≤ (q : Int) := Int.natCast_nonneg _
            have jq3 : (q : Int) ≤ (O.length : Int) := by omega
            have jq4 : q ≤ O.length := hq
            obtain ⟨_, hco1, hco2⟩ := own_caps Hon.out
            unfold maxLen at hco2
            have jq5 : (q : Int) ≤ (co : Int) := by omega
            have jq6 : (O.length : Int) ≤ (co : Int) := by omega
            have jq7 : q ≤ co := by omega
            have RD := Lib.hid (Rd.of_own Hon.out)
            have HT1 : Hid ((intsRow O).take (q * 1) = (intsRow O).take q) := Lib.hid (by rw [Nat.mul_one])
            go_wp2
            refine wp_region_held_drew (S := (fun w' => w'.cell? ⟨gy, oy + k, none⟩ = some (.int .i64 y))) (by kernel_rfl) ?_ (fun hHeld => ?_)
            · (try dsimp only); first | assumption | (exact (q6.cell (p := ⟨gy, _, none⟩) hgyn).trans zn0) | (exact (q5.cell (p := ⟨gy, _, none⟩) hgyn).trans zn0) | (exact (q4.cell (p := ⟨gy, _, none⟩) hgyn).trans zn0) | (exact ((q4.alloc q4.size _).cell (p := ⟨gy, _, none⟩) hgyn).trans zn0) | (exact ((below_drewN (Below.refl wn.heap.size wn) _).cell (p := ⟨gy, _, none⟩) hgyn).trans zn0) | (exact (((below_drewN (Below.refl wn.heap.size wn) _).alloc (by simp) _).cell (p := ⟨gy, _, none⟩) hgyn).trans zn0) | (exact ((((below_drewN (Below.refl wn.heap.size wn) _).alloc (by simp) _).alloc (by simp <;> omega) _).cell (p := ⟨gy, _, none⟩) hgyn).trans zn0) | go_keep
            refine wpAnyH_take (i := 1) (v := ?_) rfl (by kernel_rfl) (by kernel_rfl) (by kernel_rfl) (fun _ _ _ h => h) (Or.inl ⟨by rfl, ?_⟩) (by assumption) ?_
            rotate_left
            · (intro w hSw; (try dsimp only at hSw); go_simp) <;> with_reducible rfl
            try simp only [Act.put, List.setIfInBounds_toArray, List.set_cons_zero, List.set_cons_succ, List.getElem_toArray, List.getElem_cons_succ, List.getElem_cons_zero]
            refine wpAnyH_take (i := 2) (v := ?_) rfl (by kernel_rfl) (by kernel_rfl) (by kernel_rfl) (fun _ _ _ h => h) (Or.inl ⟨by rfl, ?_⟩) (by assumption) ?_
            rotate_left
            · (intro w hSw; (try dsimp only at hSw); go_simp) <;> with_reducible rfl
            try simp only [Act.put, List.setIfInBounds_toArray, List.set_cons_zero, List.set_cons_succ, List.getElem_toArray, List.getElem_cons_succ, List.getElem_cons_zero]
            refine wpAnyH_take (i := 3) (v := ?_) rfl (by kernel_rfl) (by kernel_rfl) (by kernel_rfl) (fun _ _ _ h => h) (Or.inl ⟨by rfl, ?_⟩) (by assumption) ?_
            rotate_left
            · (intro w hSw; (try dsimp only at hSw); go_simp) <;> with_reducible rfl
            try simp only [Act.put, List.setIfInBounds_toArray, List.set_cons_zero, List.set_cons_succ, List.getElem_toArray, List.getElem_cons_succ, List.getElem_cons_zero]
            refine wpAnyH_take (i := 5) (v := ?_) rfl (by kernel_rfl) (by kernel_rfl) (by kernel_rfl) (fun _ _ _ h => h) (Or.inl ⟨by rfl, ?_⟩) (by assumption) ?_
            rotate_left
            · (intro w hSw; (try dsimp only at hSw); go_simp) <;> with_reducible rfl
            try simp only [Act.put, List.setIfInBounds_toArray, List.set_cons_zero, List.set_cons_succ, List.getElem_toArray, List.getElem_cons_succ, List.getElem_cons_zero]
            refine wpAnyH_take (i := 6) (v := ?_) rfl (by kernel_rfl) (by kernel_rfl) (by kernel_rfl) (fun _ _ _ h => h) (Or.inl ⟨by rfl, ?_⟩) (by assumption) ?_
            rotate_left
            · (intro w hSw; (try dsimp only at hSw); go_simp) <;> with_reducible rfl
            try simp only [Act.put, List.setIfInBounds_toArray, List.set_cons_zero, List.set_cons_succ, List.getElem_toArray, List.getElem_cons_succ, List.getElem_cons_zero]
            refine wpAnyH_take (i := 7) (v := ?_) rfl (by kernel_rfl) (by kernel_rfl) (by kernel_rfl) (fun _ _ _ h => h) (Or.inl ⟨by rfl, ?_⟩) (by assumption) ?_
            rotate_left
            · (intro w hSw; (try dsimp only at hSw); go_simp) <;> with_reducible rfl
            try simp only [Act.put, List.setIfInBounds_toArray, List.set_cons_zero, List.set_cons_succ, List.getElem_toArray, List.getElem_cons_succ, List.getElem_cons_zero]
            refine wpAnyH_take (i := 8) (v := ?_) rfl (by kernel_rfl) (by kernel_rfl) (by kernel_rfl) (fun _ _ _ h => h) (Or.inl ⟨by rfl, ?_⟩) (by assumption) ?_
            rotate_left
            · (intro w hSw; (try dsimp only at hSw); go_simp) <;> with_reducible rfl
            try simp only [Act.put, List.setIfInBounds_toArray, List.set_cons_zero, List.set_cons_succ, List.getElem_toArray, List.getElem_cons_succ, List.getElem_cons_zero]
            refine wpAnyH_take (i := 11) (v := ?_) rfl (by kernel_rfl) (by kernel_rfl) (by kernel_rfl) (fun _ _ _ h => h) (Or.inl ⟨by rfl, ?_⟩) (by assumption) ?_
            rotate_left
            · (intro w hSw; (try dsimp only at hSw); go_simp) <;> with_reducible rfl
            try simp only [Act.put, List.setIfInBounds_toArray, List.set_cons_zero, List.set_cons_succ, List.getElem_toArray, List.getElem_cons_succ, List.getElem_cons_zero]
            refine wpAnyH_take (i := 12) (v := ?_) rfl (by kernel_rfl) (by kernel_rfl) (by kernel_rfl) (fun _ _ _ h => h) (Or.inl ⟨by rfl, ?_⟩) (by assumption) ?_
            rotate_left
            · (intro w hSw; (try dsimp only at hSw); go_simp) <;> with_reducible rfl
            try simp only [Act.put, List.setIfInBounds_toArray, List.set_cons_zero, List.set_cons_succ, List.getElem_toArray, List.getElem_cons_succ, List.getElem_cons_zero]
            refine wpAnyH_take (i := 13) (v := ?_) rfl (by kernel_rfl) (by kernel_rfl) (by kernel_rfl) (fun _ _ _ h => h) (Or.inl ⟨by rfl, ?_⟩) (by assumption) ?_
            rotate_left
            · (intro w hSw; (try dsimp only at hSw); go_simp) <;> with_reducible rfl
            try simp only [Act.put, List.setIfInBounds_toArray, List.set_cons_zero, List.set_cons_succ, List.getElem_toArray, List.getElem_cons_succ, List.getElem_cons_zero]
            refine wpAnyH_ready (rs := [0, 9]) (by kernel_rfl) (by simp) ?_
            refine (AllReadyH.cons rfl (fun K hK => ?_) (AllReadyH.cons rfl (fun K hK => ?_) AllReadyH.nil))
            · skip
              try dsimp only [List.getElem_toArray, List.getElem_cons_succ, List.getElem_cons_zero]
              go_simp
              refine hK.out _ _ ?_ (fun hHeld => ?_)
              · (try dsimp only); first | assumption | (exact (q6.cell (p := ⟨gy, _, none⟩) hgyn).trans zn0) | (exact (q5.cell (p := ⟨gy, _, none⟩) hgyn).trans zn0) | (exact (q4.cell (p := ⟨gy, _, none⟩) hgyn).trans zn0) | (exact ((q4.alloc q4.size _).cell (p := ⟨gy, _, none⟩) hgyn).trans zn0) | (exact ((below_drewN (Below.refl wn.heap.size wn) _).cell (p := ⟨gy, _, none⟩) hgyn).trans zn0) | (exact (((below_drewN (Below.refl wn.heap.size wn) _).alloc (by simp) _).cell (p := ⟨gy, _, none⟩) hgyn).trans zn0) | (exact ((((below_drewN (Below.refl wn.heap.size wn) _).alloc (by simp) _).alloc (by simp <;> omega) _).cell (p := ⟨gy, _, none⟩) hgyn).trans zn0) | go_keep
              clear hK K
              try simp only [Act.put, List.setIfInBounds_toArray, List.set_cons_zero, List.set_cons_succ, List.getElem_toArray, List.getElem_cons_succ, List.getElem_cons_zero]
              refine wpAnyH_ready (rs := [4, 9]) (by kernel_rfl) (by simp) ?_
              refine (AllReadyH.cons rfl (fun K hK => ?_) (AllReadyH.cons rfl (fun K hK => ?_) AllReadyH.nil))
              · skip
                (refine step_append_sl _ (by rfl) (.tmp 37) (.tmp 40) _ (by rfl) wn.heap.size 2 i0 _ 1 8 Try.underlying29 hi hz0 hz1 hz2 rfl (by omega) (.slice (some ⟨_, 0, none⟩) 0 0) 0 [] (by rfl) (by first | exact own_empty' _ _ _ (by simp <;> omega) (by simp) | exact (own_empty' _ _ _ (by simp <;> omega) (by simp)).alloc _) _ q co ((intsRow O).take (q * 1)) (by rfl) (by first | exact Rd.alloc' (Rd.take (Rd.drewN (Rd.of_own Hon.out) _) hq) _ | exact Rd.alloc' (Rd.alloc' (Rd.take (Rd.drewN (Rd.of_own Hon.out) _) hq) _) _) (fun u hu => intsRow_one O u (List.mem_of_mem_take hu)) (by unfold maxLen; omega) (by omega) (by simp <;> omega) ?_; intro A4 c4 w4 ho4 hg4 hor4; simp only [Nat.zero_add, List.nil_append] at ho4 ⊢; have T4 := Lib.hid (World.ownsRow.lt ho4); have q4 : Below wn.heap.size wn w4 := (by first | exact Below.grown ((below_drewN (Below.refl _ _) _).alloc (by simp) _) hg4 (by simp <;> omega) (fun g hg => by simp [Value.ownBlock] at hg; omega) | exact Below.grown (((below_drewN (Below.refl _ _) _).alloc (by simp) _).alloc (by simp <;> omega) _) hg4 (by simp <;> omega) (fun g hg => by simp [Value.ownBlock] at hg; omega)))
                refine hK.out _ _ ?_ (fun hHeld => ?_)
                · (try dsimp only); first | assumption | (exact (q6.cell (p := ⟨gy, _, none⟩) hgyn).trans zn0) | (exact (q5.cell (p := ⟨gy, _, none⟩) hgyn).trans zn0) | (exact (q4.cell (p := ⟨gy, _, none⟩) hgyn).trans zn0) | (exact ((q4.alloc q4.size _).cell (p := ⟨gy, _, none⟩) hgyn).trans zn0) | (exact ((below_drewN (Below.refl wn.heap.size wn) _).cell (p := ⟨gy, _, none⟩) hgyn).trans zn0) | (exact (((below_drewN (Below.refl wn.heap.size wn) _).alloc (by simp) _).cell (p := ⟨gy, _, none⟩) hgyn).trans zn0) | (exact ((((below_drewN (Below.refl wn.heap.size wn) _).alloc (by simp) _).alloc (by simp <;> omega) _).cell (p := ⟨gy, _, none⟩) hgyn).trans zn0) | go_keep
                clear hK K
                try simp only [Act.put, List.setIfInBounds_toArray, List.set_cons_zero, List.set_cons_succ, List.getElem_toArray, List.getElem_cons_succ, List.getElem_cons_zero]
                refine wpAnyH_ready (rs := [9]) (by kernel_rfl) (by simp) ?_
                refine AllReadyH.cons rfl (fun K hK => ?_) AllReadyH.nil
                try dsimp only [List.getElem_toArray, List.getElem_cons_succ, List.getElem_cons_zero]
                go_simp
                refine hK.out _ _ ?_ (fun hHeld => ?_)
                · (try dsimp only); first | assumption | (exact (q6.cell (p := ⟨gy, _, none⟩) hgyn).trans zn0) | (exact (q5.cell (p := ⟨gy, _, none⟩) hgyn).trans zn0) | (exact (q4.cell (p := ⟨gy, _, none⟩) hgyn).trans zn0) | (exact ((q4.alloc q4.size _).cell (p := ⟨gy, _, none⟩) hgyn).trans zn0) | (exact ((below_drewN (Below.refl wn.heap.size wn) _).cell (p := ⟨gy, _, none⟩) hgyn).trans zn0) | (exact (((below_drewN (Below.refl wn.heap.size wn) _).alloc (by simp) _).cell (p := ⟨gy, _, none⟩) hgyn).trans zn0) | (exact ((((below_drewN (Below.refl wn.heap.size wn) _).alloc (by simp) _).alloc (by simp <;> omega) _).cell (p := ⟨gy, _, none⟩) hgyn).trans zn0) | go_keep
                clear hK K
                try simp only [Act.put, List.setIfInBounds_toArray, List.set_cons_zero, List.set_cons_succ, List.getElem_toArray, List.getElem_cons_succ, List.getElem_cons_zero]
                refine wpAnyH_ready (rs := [10]) (by kernel_rfl) (by simp) ?_
                refine AllReadyH.cons rfl (fun K hK => ?_) AllReadyH.nil
                (refine step_append_sl _ (by rfl) (.tmp 41) (.tmp 46) _ (by rfl) wn.heap.size 2 i0 _ 1 8 Try.underlying29 hi hz0 hz1 hz2 rfl (by omega) (.slice A4 q c4) q ((intsRow O).take (q * 1)) (by rfl) (ho4.alloc _) (some _) 1 1 [.int .i64 y] (by rfl) (Rd.of_block (cs := #[.int .i64 y]) (heap_alloc_new _ _) rfl) (by intro x hx; simp at hx; subst hx; rfl) (by unfold maxLen; omega) (by omega) (by have := hg4.size; (try simp at this); simp <;> omega) ?_; intro A5 c5 w5 ho5 hg5 hor5; have T5 := Lib.hid (World.ownsRow.lt ho5); have q5 : Below wn.heap.size wn w5 := (q4.alloc q4.size _).grown hg5 (by have := hg4.size; (try simp at this); simp <;> omega) (fun g hg => (T4.out g hg).1))
                refine hK.out _ _ ?_ (fun hHeld => ?_)
                · (try dsimp only); first | assumption | (exact (q6.cell (p := ⟨gy, _, none⟩) hgyn).trans zn0) | (exact (q5.cell (p := ⟨gy, _, none⟩) hgyn).trans zn0) | (exact (q4.cell (p := ⟨gy, _, none⟩) hgyn).trans zn0) | (exact ((q4.alloc q4.size _).cell (p := ⟨gy, _, none⟩) hgyn).trans zn0) | (exact ((below_drewN (Below.refl wn.heap.size wn) _).cell (p := ⟨gy, _, none⟩) hgyn).trans zn0) | (exact (((below_drewN (Below.refl wn.heap.size wn) _).alloc (by simp) _).cell (p := ⟨gy, _, none⟩) hgyn).trans zn0) | (exact ((((below_drewN (Below.refl wn.heap.size wn) _).alloc (by simp) _).alloc (by simp <;> omega) _).cell (p := ⟨gy, _, none⟩) hgyn).trans zn0) | go_keep
                clear hK K
                try simp only [Act.put, List.setIfInBounds_toArray, List.set_cons_zero, List.set_cons_succ, List.getElem_toArray, List.getElem_cons_succ, List.getElem_cons_zero]
                refine wpAnyH_ready (rs := [14]) (by kernel_rfl) (by simp) ?_
                refine AllReadyH.cons rfl (fun K hK => ?_) AllReadyH.nil
                (refine step_append_sl _ (by rfl) (.tmp 47) (.tmp 50) _ (by rfl) wn.heap.size 2 i0 _ 1 8 Try.underlying29 hi hz0 hz1 hz2 rfl (by omega) (.slice A5 (q + 1) c5) (q + 1) ((intsRow O).take (q * 1) ++ [.int .i64 y]) (by rfl) ho5 _ (O.length - q) (co - q) ((intsRow O).drop q) (by rfl) (by have z := (Rd.below (Rd.cut1 RD.out hq hco1) q5 (Nat.le_refl _)).more q5.size; first | exact z | (rw [cut_addr1] at z; first | exact z | (rw [Nat.zero_add] at z; exact z))) (fun u hu => intsRow_one O u (List.mem_of_mem_drop hu)) (by unfold maxLen; omega) (by omega) q5.size ?_; intro A6 c6 w6 ho6 hg6 hor6; have T6 := Lib.hid (World.ownsRow.lt ho6); have q6 : Below wn.heap.size wn w6 := q5.grown hg6 q5.size (fun g hg => (T5.out g hg).1))
                refine hK.out _ _ ?_ (fun hHeld => ?_)
                · (try dsimp only); first | assumption | (exact (q6.cell (p := ⟨gy, _, none⟩) hgyn).trans zn0) | (exact (q5.cell (p := ⟨gy, _, none⟩) hgyn).trans zn0) | (exact (q4.cell (p := ⟨gy, _, none⟩) hgyn).trans zn0) | (exact ((q4.alloc q4.size _).cell (p := ⟨gy, _, none⟩) hgyn).trans zn0) | (exact ((below_drewN (Below.refl wn.heap.size wn) _).cell (p := ⟨gy, _, none⟩) hgyn).trans zn0) | (exact (((below_drewN (Below.refl wn.heap.size wn) _).alloc (by simp) _).cell (p := ⟨gy, _, none⟩) hgyn).trans zn0) | (exact ((((below_drewN (Below.refl wn.heap.size wn) _).alloc (by simp) _).alloc (by simp <;> omega) _).cell (p := ⟨gy, _, none⟩) hgyn).trans zn0) | go_keep
                clear hK K
                try simp only [Act.put, List.setIfInBounds_toArray, List.set_cons_zero, List.set_cons_succ, List.getElem_toArray, List.getElem_cons_succ, List.getElem_cons_zero]
                refine wpAnyH_take (i := 15) (v := ?_) rfl (by kernel_rfl) (by kernel_rfl) (by kernel_rfl) (fun _ _ _ h => h) (Or.inl ⟨by rfl, ?_⟩) (by assumption) ?_
                rotate_left
                · (intro w hSw; (try dsimp only at hSw); go_simp) <;> with_reducible rfl
                try simp only [Act.put, List.setIfInBounds_toArray, List.set_cons_zero, List.set_cons_succ, List.getElem_toArray, List.getElem_cons_succ, List.getElem_cons_zero]
                refine wpAnyH_done (by kernel_rfl) ?_ _
                have Hb9 := Lib.hid (Hbn.out.trans (q6.mono hszn))
                have Ho9 : Hid (w6.ownsRow w.heap.size 2 1 (.slice A6 (q + 1 + (O.length - q)) c6) (q + 1 + (O.length - q)) (intsRow (O.take q ++ y :: O.drop q))) := by rw [intsRow_ins O y q, ← HT1.out]; exact Lib.hid (own_base ho6 hszn)
                have HLL : Hid ((O.take q ++ y :: O.drop q).length = q + 1 + (O.length - q)) := Lib.hid (by simp [List.length_take]; omega)
                clear ho4 hg4 hor4 ho5 hg5 hor5 ho6 hg6 hor6
                go_wp2
                go_roundw
                case rel => exact ⟨O.take q ++ y :: O.drop q, A6, c6, k + 1, by rw [HLL.out], by go_num, by omega, by rw [HLL.out]; omega, by rw [HLL.out]; exact Ho9.out, by first | exact Hb9.out | exact Hb9.out.drew⟩
                case measure => simp [intOf]; omega
              · skip
                try dsimp only [List.getElem_toArray, List.getElem_cons_succ, List.getElem_cons_zero]
                go_simp
                refine hK.out _ _ ?_ (fun hHeld => ?_)
                · (try dsimp only); first | assumption | (exact (q6.cell (p := ⟨gy, _, none⟩) hgyn).trans zn0) | (exact (q5.cell (p := ⟨gy, _, none⟩) hgyn).trans zn0) | (exact (q4.cell (p := ⟨gy, _, none⟩) hgyn).trans zn0) | (exact ((q4.alloc q4.size _).cell (p := ⟨gy, _, none⟩) hgyn).trans zn0) | (exact ((below_drewN (Below.refl wn.heap.size wn) _).cell (p := ⟨gy, _, none⟩) hgyn).trans zn0) | (exact (((below_drewN (Below.refl wn.heap.size wn) _).alloc (by simp) _).cell (p := ⟨gy, _, none⟩) hgyn).trans zn0) | (exact ((((below_drewN (Below.refl wn.heap.size wn) _).alloc (by simp) _).alloc (by simp <;> omega) _).cell (p := ⟨gy, _, none⟩) hgyn).trans zn0) | go_keep
                clear hK K
                try simp only [Act.put, List.setIfInBounds_toArray, List.set_cons_zero, List.set_cons_succ, List.getElem_toArray, List.getElem_cons_succ, List.getElem_cons_zero]
                refine wpAnyH_ready (rs := [4]) (by kernel_rfl) (by simp) ?_
                refine AllReadyH.cons rfl (fun K hK => ?_) AllReadyH.nil
                (refine step_append_sl _ (by rfl) (.tmp 37) (.tmp 40) _ (by rfl) wn.heap.size 2 i0 _ 1 8 Try.underlying29 hi hz0 hz1 hz2 rfl (by omega) (.slice (some ⟨_, 0, none⟩) 0 0) 0 [] (by rfl) (by first | exact own_empty' _ _ _ (by simp <;> omega) (by simp) | exact (own_empty' _ _ _ (by simp <;> omega) (by simp)).alloc _) _ q co ((intsRow O).take (q * 1)) (by rfl) (by first | exact Rd.alloc' (Rd.take (Rd.drewN (Rd.of_own Hon.out) _) hq) _ | exact Rd.alloc' (Rd.alloc' (Rd.take (Rd.drewN (Rd.of_own Hon.out) _) hq) _) _) (fun u hu => intsRow_one O u (List.mem_of_mem_take hu)) (by unfold maxLen; omega) (by omega) (by simp <;> omega) ?_; intro A4 c4 w4 ho4 hg4 hor4; simp only [Nat.zero_add, List.nil_append] at ho4 ⊢; have T4 := Lib.hid (World.ownsRow.lt ho4); have q4 : Below wn.heap.size wn w4 := (by first | exact Below.grown ((below_drewN (Below.refl _ _) _).alloc (by simp) _) hg4 (by simp <;> omega) (fun g hg => by simp [Value.ownBlock] at hg; omega) | exact Below.grown (((below_drewN (Below.refl _ _) _).alloc (by simp) _).alloc (by simp <;> omega) _) hg4 (by simp <;> omega) (fun g hg => by simp [Value.ownBlock] at hg; omega)))
                refine hK.out _ _ ?_ (fun hHeld => ?_)
                · (try dsimp only); first | assumption | (exact (q6.cell (p := ⟨gy, _, none⟩) hgyn).trans zn0) | (exact (q5.cell (p := ⟨gy, _, none⟩) hgyn).trans zn0) | (exact (q4.cell (p := ⟨gy, _, none⟩) hgyn).trans zn0) | (exact ((q4.alloc q4.size _).cell (p := ⟨gy, _, none⟩) hgyn).trans zn0) | (exact ((below_drewN (Below.refl wn.heap.size wn) _).cell (p := ⟨gy, _, none⟩) hgyn).trans zn0) | (exact (((below_drewN (Below.refl wn.heap.size wn) _).alloc (by simp) _).cell (p := ⟨gy, _, none⟩) hgyn).trans zn0) | (exact ((((below_drewN (Below.refl wn.heap.size wn) _).alloc (by simp) _).alloc (by simp <;> omega) _).cell (p := ⟨gy, _, none⟩) hgyn).trans zn0) | go_keep
                clear hK K
                try simp only [Act.put, List.setIfInBounds_toArray, List.set_cons_zero, List.set_cons_succ, List.getElem_toArray, List.getElem_cons_succ, List.getElem_cons_zero]
                refine wpAnyH_ready (rs := [10]) (by kernel_rfl) (by simp) ?_
                refine AllReadyH.cons rfl (fun K hK => ?_) AllReadyH.nil
                (refine step_append_sl _ (by rfl) (.tmp 41) (.tmp 46) _ (by rfl) wn.heap.size 2 i0 _ 1 8 Try.underlying29 hi hz0 hz1 hz2 rfl (by omega) (.slice A4 q c4) q ((intsRow O).take (q * 1)) (by rfl) ho4 (some _) 1 1 [.int .i64 y] (by rfl) (by first | exact Rd.of_block (cs := #[.int .i64 y]) ((hg4.block _ (by simp <;> omega) (by simp [Value.ownBlock] <;> omega)).trans (heap_alloc2_new _ _ _)) rfl | exact Rd.of_block (cs := #[.int .i64 y]) ((hg4.block _ (by simp <;> omega) (by simp [Value.ownBlock] <;> omega)).trans (heap_alloc2_old _ _ _)) rfl) (by intro x hx; simp at hx; subst hx; rfl) (by unfold maxLen; omega) (by omega) (by have := hg4.size; (try simp at this); simp <;> omega) ?_; intro A5 c5 w5 ho5 hg5 hor5; have T5 := Lib.hid (World.ownsRow.lt ho5); have q5 : Below wn.heap.size wn w5 := q4.grown hg5 q4.size (fun g hg => (T4.out g hg).1))
                refine hK.out _ _ ?_ (fun hHeld => ?_)
                · (try dsimp only); first | assumption | (exact (q6.cell (p := ⟨gy, _, none⟩) hgyn).trans zn0) | (exact (q5.cell (p := ⟨gy, _, none⟩) hgyn).trans zn0) | (exact (q4.cell (p := ⟨gy, _, none⟩) hgyn).trans zn0) | (exact ((q4.alloc q4.size _).cell (p := ⟨gy, _, none⟩) hgyn).trans zn0) | (exact ((below_drewN (Below.refl wn.heap.size wn) _).cell (p := ⟨gy, _, none⟩) hgyn).trans zn0) | (exact (((below_drewN (Below.refl wn.heap.size wn) _).alloc (by simp) _).cell (p := ⟨gy, _, none⟩) hgyn).trans zn0) | (exact ((((below_drewN (Below.refl wn.heap.size wn) _).alloc (by simp) _).alloc (by simp <;> omega) _).cell (p := ⟨gy, _, none⟩) hgyn).trans zn0) | go_keep
                clear hK K
                try simp only [Act.put, List.setIfInBounds_toArray, List.set_cons_zero, List.set_cons_succ, List.getElem_toArray, List.getElem_cons_succ, List.getElem_cons_zero]
                refine wpAnyH_ready (rs := [14]) (by kernel_rfl) (by simp) ?_
                refine AllReadyH.cons rfl (fun K hK => ?_) AllReadyH.nil
                (refine step_append_sl _ (by rfl) (.tmp 47) (.tmp 50) _ (by rfl) wn.heap.size 2 i0 _ 1 8 Try.underlying29 hi hz0 hz1 hz2 rfl (by omega) (.slice A5 (q + 1) c5) (q + 1) ((intsRow O).take (q * 1) ++ [.int .i64 y]) (by rfl) ho5 _ (O.length - q) (co - q) ((intsRow O).drop q) (by rfl) (by have z := (Rd.below (Rd.cut1 RD.out hq hco1) q5 (Nat.le_refl _)).more q5.size; first | exact z | (rw [cut_addr1] at z; first | exact z | (rw [Nat.zero_add] at z; exact z))) (fun u hu => intsRow_one O u (List.mem_of_mem_drop hu)) (by unfold maxLen; omega) (by omega) q5.size ?_; intro A6 c6 w6 ho6 hg6 hor6; have T6 := Lib.hid (World.ownsRow.lt ho6); have q6 : Below wn.heap.size wn w6 := q5.grown hg6 q5.size (fun g hg => (T5.out g hg).1))
                refine hK.out _ _ ?_ (fun hHeld => ?_)
                · (try dsimp only); first | assumption | (exact (q6.cell (p := ⟨gy, _, none⟩) hgyn).trans zn0) | (exact (q5.cell (p := ⟨gy, _, none⟩) hgyn).trans zn0) | (exact (q4.cell (p := ⟨gy, _, none⟩) hgyn).trans zn0) | (exact ((q4.alloc q4.size _).cell (p := ⟨gy, _, none⟩) hgyn).trans zn0) | (exact ((below_drewN (Below.refl wn.heap.size wn) _).cell (p := ⟨gy, _, none⟩) hgyn).trans zn0) | (exact (((below_drewN (Below.refl wn.heap.size wn) _).alloc (by simp) _).cell (p := ⟨gy, _, none⟩) hgyn).trans zn0) | (exact ((((below_drewN (Below.refl wn.heap.size wn) _).alloc (by simp) _).alloc (by simp <;> omega) _).cell (p := ⟨gy, _, none⟩) hgyn).trans zn0) | go_keep
                clear hK K
                try simp only [Act.put, List.setIfInBounds_toArray, List.set_cons_zero, List.set_cons_succ, List.getElem_toArray, List.getElem_cons_succ, List.getElem_cons_zero]
                refine wpAnyH_take (i := 15) (v := ?_) rfl (by kernel_rfl) (by kernel_rfl) (by kernel_rfl) (fun _ _ _ h => h) (Or.inl ⟨by rfl, ?_⟩) (by assumption) ?_
                rotate_left
                · (intro w hSw; (try dsimp only at hSw); go_simp) <;> with_reducible rfl
                try simp only [Act.put, List.setIfInBounds_toArray, List.set_cons_zero, List.set_cons_succ, List.getElem_toArray, List.getElem_cons_succ, List.getElem_cons_zero]
                refine wpAnyH_done (by kernel_rfl) ?_ _
                have Hb9 := Lib.hid (Hbn.out.trans (q6.mono hszn))
                have Ho9 : Hid (w6.ownsRow w.heap.size 2 1 (.slice A6 (q + 1 + (O.length - q)) c6) (q + 1 + (O.length - q)) (intsRow (O.take q ++ y :: O.drop q))) := by rw [intsRow_ins O y q, ← HT1.out]; exact Lib.hid (own_base ho6 hszn)
                have HLL : Hid ((O.take q ++ y :: O.drop q).length = q + 1 + (O.length - q)) := Lib.hid (by simp [List.length_take]; omega)
                clear ho4 hg4 hor4 ho5 hg5 hor5 ho6 hg6 hor6
                go_wp2
                go_roundw
                case rel => exact ⟨O.take q ++ y :: O.drop q, A6, c6, k + 1, by rw [HLL.out], by go_num, by omega, by rw [HLL.out]; omega, by rw [HLL.out]; exact Ho9.out, by first | exact Hb9.out | exact Hb9.out.drew⟩
                case measure => simp [intOf]; omega
            · skip
              try dsimp only [List.getElem_toArray, List.getElem_cons_succ, List.getElem_cons_zero]
              go_simp
              refine hK.out _ _ ?_ (fun hHeld => ?_)
              · (try dsimp only); first | assumption | (exact (q6.cell (p := ⟨gy, _, none⟩) hgyn).trans zn0) | (exact (q5.cell (p := ⟨gy, _, none⟩) hgyn).trans zn0) | (exact (q4.cell (p := ⟨gy, _, none⟩) hgyn).trans zn0) | (exact ((q4.alloc q4.size _).cell (p := ⟨gy, _, none⟩) hgyn).trans zn0) | (exact ((below_drewN (Below.refl wn.heap.size wn) _).cell (p := ⟨gy, _, none⟩) hgyn).trans zn0) | (exact (((below_drewN (Below.refl wn.heap.size wn) _).alloc (by simp) _).cell (p := ⟨gy, _, none⟩) hgyn).trans zn0) | (exact ((((below_drewN (Below.refl wn.heap.size wn) _).alloc (by simp) _).alloc (by simp <;> omega) _).cell (p := ⟨gy, _, none⟩) hgyn).trans zn0) | go_keep
              clear hK K
              try simp only [Act.put, List.setIfInBounds_toArray, List.set_cons_zero, List.set_cons_succ, List.getElem_toArray, List.getElem_cons_succ, List.getElem_cons_zero]
              refine wpAnyH_ready (rs := [0]) (by kernel_rfl) (by simp) ?_
              refine AllReadyH.cons rfl (fun K hK => ?_) AllReadyH.nil
              try dsimp only [List.getElem_toArray, List.getElem_cons_succ, List.getElem_cons_zero]
              go_simp
              refine hK.out _ _ ?_ (fun hHeld => ?_)
              · (try dsimp only); first | assumption | (exact (q6.cell (p := ⟨gy, _, none⟩) hgyn).trans zn0) | (exact (q5.cell (p := ⟨gy, _, none⟩) hgyn).trans zn0) | (exact (q4.cell (p := ⟨gy, _, none⟩) hgyn).trans zn0) | (exact ((q4.alloc q4.size _).cell (p := ⟨gy, _, none⟩) hgyn).trans zn0) | (exact ((below_drewN (Below.refl wn.heap.size wn) _).cell (p := ⟨gy, _, none⟩) hgyn).trans zn0) | (exact (((below_drewN (Below.refl wn.heap.size wn) _).alloc (by simp) _).cell (p := ⟨gy, _, none⟩) hgyn).trans zn0) | (exact ((((below_drewN (Below.refl wn.heap.size wn) _).alloc (by simp) _).alloc (by simp <;> omega) _).cell (p := ⟨gy, _, none⟩) hgyn).trans zn0) | go_keep
              clear hK K
              try simp only [Act.put, List.setIfInBounds_toArray, List.set_cons_zero, List.set_cons_succ, List.getElem_toArray, List.getElem_cons_succ, List.getElem_cons_zero]
              refine wpAnyH_ready (rs := [4]) (by kernel_rfl) (by simp) ?_
              refine AllReadyH.cons rfl (fun K hK => ?_) AllReadyH.nil
              (refine step_append_sl _ (by rfl) (.tmp 37) (.tmp 40) _ (by rfl) wn.heap.size 2 i0 _ 1 8 Try.underlying29 hi hz0 hz1 hz2 rfl (by omega) (.slice (some ⟨_, 0, none⟩) 0 0) 0 [] (by rfl) (by first | exact own_empty' _ _ _ (by simp <;> omega) (by simp) | exact (own_empty' _ _ _ (by simp <;> omega) (by simp)).alloc _) _ q co ((intsRow O).take (q * 1)) (by rfl) (by first | exact Rd.alloc' (Rd.take (Rd.drewN (Rd.of_own Hon.out) _) hq) _ | exact Rd.alloc' (Rd.alloc' (Rd.take (Rd.drewN (Rd.of_own Hon.out) _) hq) _) _) (fun u hu => intsRow_one O u (List.mem_of_mem_take hu)) (by unfold maxLen; omega) (by omega) (by simp <;> omega) ?_; intro A4 c4 w4 ho4 hg4 hor4; simp only [Nat.zero_add, List.nil_append] at ho4 ⊢; have T4 := Lib.hid (World.ownsRow.lt ho4); have q4 : Below wn.heap.size wn w4 := (by first | exact Below.grown ((below_drewN (Below.refl _ _) _).alloc (by simp) _) hg4 (by simp <;> omega) (fun g hg => by simp [Value.ownBlock] at hg; omega) | exact Below.grown (((below_drewN (Below.refl _ _) _).alloc (by simp) _).alloc (by simp <;> omega) _) hg4 (by simp <;> omega) (fun g hg => by simp [Value.ownBlock] at hg; omega)))
              refine hK.out _ _ ?_ (fun hHeld => ?_)
              · (try dsimp only); first | assumption | (exact (q6.cell (p := ⟨gy, _, none⟩) hgyn).trans zn0) | (exact (q5.cell (p := ⟨gy, _, none⟩) hgyn).trans zn0) | (exact (q4.cell (p := ⟨gy, _, none⟩) hgyn).trans zn0) | (exact ((q4.alloc q4.size _).cell (p := ⟨gy, _, none⟩) hgyn).trans zn0) | (exact ((below_drewN (Below.refl wn.heap.size wn) _).cell (p := ⟨gy, _, none⟩) hgyn).trans zn0) | (exact (((below_drewN (Below.refl wn.heap.size wn) _).alloc (by simp) _).cell (p := ⟨gy, _, none⟩) hgyn).trans zn0) | (exact ((((below_drewN (Below.refl wn.heap.size wn) _).alloc (by simp) _).alloc (by simp <;> omega) _).cell (p := ⟨gy, _, none⟩) hgyn).trans zn0) | go_keep
              clear hK K
              try simp only [Act.put, List.setIfInBounds_toArray, List.set_cons_zero, List.set_cons_succ, List.getElem_toArray, List.getElem_cons_succ, List.getElem_cons_zero]
              refine wpAnyH_ready (rs := [10]) (by kernel_rfl) (by simp) ?_
              refine AllReadyH.cons rfl (fun K hK => ?_) AllReadyH.nil
              (refine step_append_sl _ (by rfl) (.tmp 41) (.tmp 46) _ (by rfl) wn.heap.size 2 i0 _ 1 8 Try.underlying29 hi hz0 hz1 hz2 rfl (by omega) (.slice A4 q c4) q ((intsRow O).take (q * 1)) (by rfl) ho4 (some _) 1 1 [.int .i64 y] (by rfl) (by first | exact Rd.of_block (cs := #[.int .i64 y]) ((hg4.block _ (by simp <;> omega) (by simp [Value.ownBlock] <;> omega)).trans (heap_alloc2_new _ _ _)) rfl | exact Rd.of_block (cs := #[.int .i64 y]) ((hg4.block _ (by simp <;> omega) (by simp [Value.ownBlock] <;> omega)).trans (heap_alloc2_old _ _ _)) rfl) (by intro x hx; simp at hx; subst hx; rfl) (by unfold maxLen; omega) (by omega) (by have := hg4.size; (try simp at this); simp <;> omega) ?_; intro A5 c5 w5 ho5 hg5 hor5; have T5 := Lib.hid (World.ownsRow.lt ho5); have q5 : Below wn.heap.size wn w5 := q4.grown hg5 q4.size (fun g hg => (T4.out g hg).1))
              refine hK.out _ _ ?_ (fun hHeld => ?_)
              · (try dsimp only); first | assumption | (exact (q6.cell (p := ⟨gy, _, none⟩) hgyn).trans zn0) | (exact (q5.cell (p := ⟨gy, _, none⟩) hgyn).trans zn0) | (exact (q4.cell (p := ⟨gy, _, none⟩) hgyn).trans zn0) | (exact ((q4.alloc q4.size _).cell (p := ⟨gy, _, none⟩) hgyn).trans zn0) | (exact ((below_drewN (Below.refl wn.heap.size wn) _).cell (p := ⟨gy, _, none⟩) hgyn).trans zn0) | (exact (((below_drewN (Below.refl wn.heap.size wn) _).alloc (by simp) _).cell (p := ⟨gy, _, none⟩) hgyn).trans zn0) | (exact ((((below_drewN (Below.refl wn.heap.size wn) _).alloc (by simp) _).alloc (by simp <;> omega) _).cell (p := ⟨gy, _, none⟩) hgyn).trans zn0) | go_keep
              clear hK K
              try simp only [Act.put, List.setIfInBounds_toArray, List.set_cons_zero, List.set_cons_succ, List.getElem_toArray, List.getElem_cons_succ, List.getElem_cons_zero]
              refine wpAnyH_ready (rs := [14]) (by kernel_rfl) (by simp) ?_
              refine AllReadyH.cons rfl (fun K hK => ?_) AllReadyH.nil
              (refine step_append_sl _ (by rfl) (.tmp 47) (.tmp 50) _ (by rfl) wn.heap.size 2 i0 _ 1 8 Try.underlying29 hi hz0 hz1 hz2 rfl (by omega) (.slice A5 (q + 1) c5) (q + 1) ((intsRow O).take (q * 1) ++ [.int .i64 y]) (by rfl) ho5 _ (O.length - q) (co - q) ((intsRow O).drop q) (by rfl) (by have z := (Rd.below (Rd.cut1 RD.out hq hco1) q5 (Nat.le_refl _)).more q5.size; first | exact z | (rw [cut_addr1] at z; first | exact z | (rw [Nat.zero_add] at z; exact z))) (fun u hu => intsRow_one O u (List.mem_of_mem_drop hu)) (by unfold maxLen; omega) (by omega) q5.size ?_; intro A6 c6 w6 ho6 hg6 hor6; have T6 := Lib.hid (World.ownsRow.lt ho6); have q6 : Below wn.heap.size wn w6 := q5.grown hg6 q5.size (fun g hg => (T5.out g hg).1))
              refine hK.out _ _ ?_ (fun hHeld => ?_)
              · (try dsimp only); first | assumption | (exact (q6.cell (p := ⟨gy, _, none⟩) hgyn).trans zn0) | (exact (q5.cell (p := ⟨gy, _, none⟩) hgyn).trans zn0) | (exact (q4.cell (p := ⟨gy, _, none⟩) hgyn).trans zn0) | (exact ((q4.alloc q4.size _).cell (p := ⟨gy, _, none⟩) hgyn).trans zn0) | (exact ((below_drewN (Below.refl wn.heap.size wn) _).cell (p := ⟨gy, _, none⟩) hgyn).trans zn0) | (exact (((below_drewN (Below.refl wn.heap.size wn) _).alloc (by simp) _).cell (p := ⟨gy, _, none⟩) hgyn).trans zn0) | (exact ((((below_drewN (Below.refl wn.heap.size wn) _).alloc (by simp) _).alloc (by simp <;> omega) _).cell (p := ⟨gy, _, none⟩) hgyn).trans zn0) | go_keep
              clear hK K
              try simp only [Act.put, List.setIfInBounds_toArray, List.set_cons_zero, List.set_cons_succ, List.getElem_toArray, List.getElem_cons_succ, List.getElem_cons_zero]
              refine wpAnyH_take (i := 15) (v := ?_) rfl (by kernel_rfl) (by kernel_rfl) (by kernel_rfl) (fun _ _ _ h => h) (Or.inl ⟨by rfl, ?_⟩) (by assumption) ?_
              rotate_left
              · (intro w hSw; (try dsimp only at hSw); go_simp) <;> with_reducible rfl
              try simp only [Act.put, List.setIfInBounds_toArray, List.set_cons_zero, List.set_cons_succ, List.getElem_toArray, List.getElem_cons_succ, List.getElem_cons_zero]
              refine wpAnyH_done (by kernel_rfl) ?_ _
              have Hb9 := Lib.hid (Hbn.out.trans (q6.mono hszn))
              have Ho9 : Hid (w6.ownsRow w.heap.size 2 1 (.slice A6 (q + 1 + (O.length - q)) c6) (q + 1 + (O.length - q)) (intsRow (O.take q ++ y :: O.drop q))) := by rw [intsRow_ins O y q, ← HT1.out]; exact Lib.hid (own_base ho6 hszn)
              have HLL : Hid ((O.take q ++ y :: O.drop q).length = q + 1 + (O.length - q)) := Lib.hid (by simp [List.length_take]; omega)
              clear ho4 hg4 hor4 ho5 hg5 hor5 ho6 hg6 hor6
              go_wp2
              go_roundw
              case rel => exact ⟨O.take q ++ y :: O.drop q, A6, c6, k + 1, by rw [HLL.out], by go_num, by omega, by rw [HLL.out]; omega, by rw [HLL.out]; exact Ho9.out, by first | exact Hb9.out | exact Hb9.out.drew⟩
              case measure => simp [intOf]; omega
      · skip
        have hOl : O.length ≤ l.length := by omega
        go_wp2
        go_ret2
        exact ⟨O, _, 0, rfl, Ho.out, hOl, Hbw.out⟩
  · have uc : (cd != 0) = true := by simpa using hcd
    go_wp2
    go_ret2
    exact ⟨[], _, cd, rfl, World.ownsRow_nil _ _ _ _, by simp, hb2⟩

end Go.Proofs.Ytecfkomijaakhaa
