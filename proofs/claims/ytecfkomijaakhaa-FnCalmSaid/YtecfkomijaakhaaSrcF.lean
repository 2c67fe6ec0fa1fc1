/- The walks of l01From, l01Pick. -/
import Derived.Test.YtecfkomijaakhaaSrc
import Derived.Deep.RegionHeld3
namespace Go.Proofs.Ytecfkomijaakhaa
open Go.RowKit

set_option maxHeartbeats 4000000 in
theorem from_any (w : World) (A : Option Addr) (n c : Nat) (hcode : Code w A n) (hn : n ≤ 4096) (hc : n ≤ c ∧ c ≤ maxLen) :
    Calls Try.prog 76 #[.slice A n c] w fun e w' => e = .returned (.pointer (some ⟨w.heap.size, 0, none⟩)) ∧ Src w' w.heap.size w.heap.size A n c ∧ Below w.heap.size w w' := by
  obtain ⟨hc1, hc2⟩ := hc
  have Hcode := Lib.hid hcode
  have Hc2 := Lib.hid hc2
  unfold maxLen at hc2
  have hfar : ∀ gc oc, A = some ⟨gc, oc, none⟩ → 0 < n → gc < w.heap.size := fun gc oc e hp => by
    obtain ⟨gc', oc', e', h, _⟩ := hcode hp
    rw [e] at e'
    injection e' with e'
    injection e' with e1
    rw [e1]; exact h
  have Hfar := Lib.hid hfar
  have b0 := (Below.refl w.heap.size w).alloc (Nat.le_refl _) (.cells #[.slice A n c, .int .i64 0, .int .i64 61043] 82)
  have B0 := Lib.hid b0
  have K0 := Lib.hid (Blk.new w 82 #[.slice A n c, .int .i64 0, .int .i64 61043])
  clear hcode hfar b0
  go_enter Try.func76, Try.ntmps76
  go_wp2
  go_loopw [4] (fun i wr => ∃ k s : Nat, k ≤ n ∧ k ≤ 64 ∧ i = .int .i64 k ∧ s < 2147483647 ∧ Blk wr w.heap.size 82 #[.slice A n c, .int .i64 0, .int .i64 s] ∧ Below w.heap.size w wr) (fun i _ => n - (intOf i).toNat)
  case atStart => exact ⟨0, 61043, Nat.zero_le _, by omega, rfl, by omega, K0.out, B0.out⟩
  case round =>
    obtain ⟨k, s, hk, hk64, rfl, hs, hB, hb⟩ := hrel
    have HB := Lib.hid hB
    have hsz := hb.size
    have k2 : wr.cell? ⟨w.heap.size, 2, none⟩ = some (.int .i64 s) := hB.cell 2
    have f2 := hB.frozen 2
    clear hB
    by_cases hlt : k < n ∧ k < 64
    · obtain ⟨h1, h2⟩ := hlt
      obtain ⟨gc, oc, rfl, hgc, hby⟩ := Hcode.out (by omega)
      obtain ⟨b, hb8, cb0⟩ := hby k h1
      have cb := (hb.cell (p := ⟨gc, oc + k, none⟩) hgc).trans cb0
      have hne : gc ≠ w.heap.size := by omega
      have i0 : (0 : Int) ≤ (k : Int) := Int.natCast_nonneg _
      have i1 : (k : Int) < (n : Int) := by omega
      have e1 : ((s : Int) * 83 + (b : Int)) % 2147483647 = (((s * 83 + b) % 2147483647 : Nat) : Int) := by omega
      obtain ⟨s1, hs1⟩ : ∃ s1, s1 = (s * 83 + b) % 2147483647 := ⟨_, rfl⟩
      have hs1l : s1 < 2147483647 := by omega
      rw [← hs1] at e1
      have x1 := IntWalk.i64_in ((s : Int) * 83) (by omega)
      have x2 := IntWalk.i64_in ((s : Int) * 83 + (b : Int)) (by omega)
      have x3 : ((s : Int) * 83 + (b : Int)).tmod 2147483647 = (s1 : Int) := by rw [Int.tmod_eq_emod_of_nonneg (by omega)]; exact e1
      have x4 := IntWalk.i64_in (b : Int) (by omega)
      clear cb0 hby hs1
      go_wp2
      refine wp_region_held_drew (S := (fun w' => w'.cell? ⟨gc, oc + k, none⟩ = some (.int .u8 b))) (by kernel_rfl) ?_ (fun hHeld => ?_)
      · (try dsimp only); first | assumption | exact (World.cell?_setCell_other _ _ _ _ (fun e => hne (congrArg Addr.block e).symm)).trans hHeld | go_keep
      refine wpAnyH_take (i := 0) (v := ?_) rfl (by kernel_rfl) (by kernel_rfl) (by kernel_rfl) (fun _ _ _ h => h) (Or.inl ⟨by rfl, ?_⟩) (by assumption) ?_
      rotate_left
      · (intro w hSw; (try dsimp only at hSw); go_simp) <;> with_reducible rfl
      try simp only [Act.put, List.setIfInBounds_toArray, List.set_cons_zero, List.set_cons_succ, List.getElem_toArray, List.getElem_cons_succ, List.getElem_cons_zero]
      refine wpAnyH_take (i := 1) (v := ?_) rfl (by kernel_rfl) (by kernel_rfl) (by kernel_rfl) (fun _ _ _ h => h) (Or.inl ⟨by rfl, ?_⟩) (by assumption) ?_
      rotate_left
      · (intro w hSw; (try dsimp only at hSw); go_simp) <;> with_reducible rfl
      try simp only [Act.put, List.setIfInBounds_toArray, List.set_cons_zero, List.set_cons_succ, List.getElem_toArray, List.getElem_cons_succ, List.getElem_cons_zero]
      refine wpAnyH_take (i := 2) (v := ?_) rfl (by kernel_rfl) (by kernel_rfl) (by kernel_rfl) (fun _ _ _ h => h) (Or.inl ⟨by rfl, ?_⟩) (by assumption) ?_
      rotate_left
      · (intro w hSw; (try dsimp only at hSw); go_simp) <;> with_reducible rfl
      try simp only [Act.put, List.setIfInBounds_toArray, List.set_cons_zero, List.set_cons_succ, List.getElem_toArray, List.getElem_cons_succ, List.getElem_cons_zero]
      refine wpAnyH_take (i := 3) (v := ?_) rfl (by kernel_rfl) (by kernel_rfl) (by kernel_rfl) (fun _ _ _ h => h) (Or.inl ⟨by rfl, ?_⟩) (by assumption) ?_
      rotate_left
      · (intro w hSw; (try dsimp only at hSw); go_simp) <;> with_reducible rfl
      try simp only [Act.put, List.setIfInBounds_toArray, List.set_cons_zero, List.set_cons_succ, List.getElem_toArray, List.getElem_cons_succ, List.getElem_cons_zero]
      refine wpAnyH_take (i := 6) (v := ?_) rfl (by kernel_rfl) (by kernel_rfl) (by kernel_rfl) (fun _ _ _ h => h) (Or.inl ⟨by rfl, ?_⟩) (by assumption) ?_
      rotate_left
      · (intro w hSw; (try dsimp only at hSw); go_simp) <;> with_reducible rfl
      try simp only [Act.put, List.setIfInBounds_toArray, List.set_cons_zero, List.set_cons_succ, List.getElem_toArray, List.getElem_cons_succ, List.getElem_cons_zero]
      refine wpAnyH_take (i := 7) (v := ?_) rfl (by kernel_rfl) (by kernel_rfl) (by kernel_rfl) (fun _ _ _ h => h) (Or.inl ⟨by rfl, ?_⟩) (by assumption) ?_
      rotate_left
      · (intro w hSw; (try dsimp only at hSw); go_simp) <;> with_reducible rfl
      try simp only [Act.put, List.setIfInBounds_toArray, List.set_cons_zero, List.set_cons_succ, List.getElem_toArray, List.getElem_cons_succ, List.getElem_cons_zero]
      refine wpAnyH_take (i := 8) (v := ?_) rfl (by kernel_rfl) (by kernel_rfl) (by kernel_rfl) (fun _ _ _ h => h) (Or.inl ⟨by rfl, ?_⟩) (by assumption) ?_
      rotate_left
      · (intro w hSw; (try dsimp only at hSw); go_simp) <;> with_reducible rfl
      try simp only [Act.put, List.setIfInBounds_toArray, List.set_cons_zero, List.set_cons_succ, List.getElem_toArray, List.getElem_cons_succ, List.getElem_cons_zero]
      refine wpAnyH_take (i := 9) (v := ?_) rfl (by kernel_rfl) (by kernel_rfl) (by kernel_rfl) (fun _ _ _ h => h) (Or.inl ⟨by rfl, ?_⟩) (by assumption) ?_
      rotate_left
      · (intro w hSw; (try dsimp only at hSw); go_simp) <;> with_reducible rfl
      try simp only [Act.put, List.setIfInBounds_toArray, List.set_cons_zero, List.set_cons_succ, List.getElem_toArray, List.getElem_cons_succ, List.getElem_cons_zero]
      refine wpAnyH_take (i := 10) (v := ?_) rfl (by kernel_rfl) (by kernel_rfl) (by kernel_rfl) (fun _ _ _ h => h) (Or.inl ⟨by rfl, ?_⟩) (by assumption) ?_
      rotate_left
      · (intro w hSw; (try dsimp only at hSw); go_simp) <;> with_reducible rfl
      try simp only [Act.put, List.setIfInBounds_toArray, List.set_cons_zero, List.set_cons_succ, List.getElem_toArray, List.getElem_cons_succ, List.getElem_cons_zero]
      refine wpAnyH_ready (rs := [4]) (by kernel_rfl) (by simp) ?_
      refine AllReadyH.cons rfl (fun K hK => ?_) AllReadyH.nil
      try dsimp only [List.getElem_toArray, List.getElem_cons_succ, List.getElem_cons_zero]
      go_simp
      refine hK.out _ _ ?_ (fun hHeld => ?_)
      · (try dsimp only); first | assumption | exact (World.cell?_setCell_other _ _ _ _ (fun e => hne (congrArg Addr.block e).symm)).trans hHeld | go_keep
      clear hK K
      try simp only [Act.put, List.setIfInBounds_toArray, List.set_cons_zero, List.set_cons_succ, List.getElem_toArray, List.getElem_cons_succ, List.getElem_cons_zero]
      refine wpAnyH_take (i := 5) (v := ?_) rfl (by kernel_rfl) (by kernel_rfl) (by kernel_rfl) (fun _ _ _ h => h) (Or.inl ⟨by rfl, ?_⟩) (by assumption) ?_
      rotate_left
      · (intro w hSw; (try dsimp only at hSw); go_simp) <;> with_reducible rfl
      try simp only [Act.put, List.setIfInBounds_toArray, List.set_cons_zero, List.set_cons_succ, List.getElem_toArray, List.getElem_cons_succ, List.getElem_cons_zero]
      refine wpAnyH_take (i := 11) (v := ?_) rfl (by kernel_rfl) (by kernel_rfl) (by kernel_rfl) (fun _ _ _ h => h) (Or.inl ⟨by rfl, ?_⟩) (by assumption) ?_
      rotate_left
      · (intro w hSw; (try dsimp only at hSw); go_simp) <;> with_reducible rfl
      try simp only [Act.put, List.setIfInBounds_toArray, List.set_cons_zero, List.set_cons_succ, List.getElem_toArray, List.getElem_cons_succ, List.getElem_cons_zero]
      refine wpAnyH_take (i := 12) (v := ?_) rfl (by kernel_rfl) (by kernel_rfl) (by kernel_rfl) (fun _ _ _ h => h) (Or.inl ⟨by rfl, ?_⟩) (by assumption) ?_
      rotate_left
      · (intro w hSw; (try dsimp only at hSw); go_simp) <;> with_reducible rfl
      try simp only [Act.put, List.setIfInBounds_toArray, List.set_cons_zero, List.set_cons_succ, List.getElem_toArray, List.getElem_cons_succ, List.getElem_cons_zero]
      refine wpAnyH_take (i := 13) (v := ?_) rfl (by kernel_rfl) (by kernel_rfl) (by kernel_rfl) (fun _ _ _ h => h) (Or.inl ⟨by rfl, ?_⟩) (by assumption) ?_
      rotate_left
      · (intro w hSw; (try dsimp only at hSw); go_simp) <;> with_reducible rfl
      try simp only [Act.put, List.setIfInBounds_toArray, List.set_cons_zero, List.set_cons_succ, List.getElem_toArray, List.getElem_cons_succ, List.getElem_cons_zero]
      refine wpAnyH_take (i := 14) (v := ?_) rfl (by kernel_rfl) (by kernel_rfl) (by kernel_rfl) (fun _ _ _ h => h) (Or.inl ⟨by rfl, ?_⟩) (by assumption) ?_
      rotate_left
      · (intro w hSw; (try dsimp only at hSw); go_simp) <;> with_reducible rfl
      try simp only [Act.put, List.setIfInBounds_toArray, List.set_cons_zero, List.set_cons_succ, List.getElem_toArray, List.getElem_cons_succ, List.getElem_cons_zero]
      refine wpAnyH_ready (rs := [15]) (by kernel_rfl) (by simp) ?_
      refine AllReadyH.cons rfl (fun K hK => ?_) AllReadyH.nil
      try dsimp only [List.getElem_toArray, List.getElem_cons_succ, List.getElem_cons_zero]
      go_simp
      refine hK.out _ _ ?_ (fun hHeld => ?_)
      · (try dsimp only); first | assumption | exact (World.cell?_setCell_other _ _ _ _ (fun e => hne (congrArg Addr.block e).symm)).trans hHeld | go_keep
      clear hK K
      try simp only [Act.put, List.setIfInBounds_toArray, List.set_cons_zero, List.set_cons_succ, List.getElem_toArray, List.getElem_cons_succ, List.getElem_cons_zero]
      refine wpAnyH_done (by kernel_rfl) ?_ _
      have HB2 := Lib.hid (show Blk ((wr.setCell ⟨w.heap.size, 2, none⟩ (.int .i64 s1)).drew) w.heap.size 82 #[.slice (some ⟨gc, oc, none⟩) n c, .int .i64 0, .int .i64 s1] from (HB.out.set 2 _).drew)
      have hbq : Below w.heap.size w ((wr.setCell ⟨w.heap.size, 2, none⟩ (.int .i64 s1)).drew) := (hb.setCell (Nat.le_refl _) _).drew
      clear hHeld k2 f2 cb e1
      go_wp2
      go_roundw
      case rel => exact ⟨k + 1, s1, by omega, by omega, by go_num, hs1l, HB2.out, hbq⟩
      case measure => simp [intOf]; omega
    · have hq : ∀ gc oc, 0 < n → A = some ⟨gc, oc, none⟩ → gc < w.heap.size := fun gc oc h e => Hfar.out gc oc e h
      have HS := Lib.hid (show Src wr w.heap.size w.heap.size A n c from ⟨⟨0, s, HB.out, Nat.zero_le _, hs⟩, Nat.le_refl _, hn, ⟨hc1, Hc2.out⟩, fun h => by
        obtain ⟨gc, oc, e, hgc, hcell⟩ := Hcode.out h
        refine ⟨gc, oc, e, by omega, fun i hi => ?_⟩
        obtain ⟨b, hb8, hcb⟩ := hcell i hi
        exact ⟨b, hb8, (hb.cell (p := ⟨gc, oc + i, none⟩) hgc).trans hcb⟩, fun h gc oc e => hq gc oc h e⟩)
      clear k2 f2 hq
      by_cases hkn : k < n
      all_goals
        go_wp2
        go_ret
        exact ⟨rfl, HS.out, hb⟩

set_option maxHeartbeats 2000000 in
theorem pick_any (w : World) (base g : Nat) (A : Option Addr) (n c : Nat) (ls : List Int) (v : Value) (hs : Src w base g A n c) (hv : Sl w 1 v ls.length (intsRow ls)) (hl : 0 < ls.length) (hm : ls.length ≤ 1000) (hg : v.ownBlock ≠ some g) :
    Calls Try.prog 83 #[.pointer (some ⟨g, 0, none⟩), v] w fun e w' => ∃ y ∈ ls, e = .returned (.int .i64 y) ∧ Src w' base g A n c ∧ w.grownBy w' (some g) := by
  have Hv := Lib.hid hv
  obtain ⟨Av, cv, rfl, _, hcv, _⟩ := hv
  unfold maxLen at hcv
  go_enter Try.func83, Try.ntmps83
  go_wp2_with fail
  refine (next_any w base g A n c (ls.length : Int) hs).mono ?_
  rintro e w2 ⟨x, rfl, hx, hs2, hg2⟩
  have hxl : x < ls.length := by omega
  obtain ⟨_, _, hve, _, _, hr⟩ := Hv.out.grown hg2 (fun g' hg' h => hg (by rw [h, hg']))
  injection hve with e1 _ e3
  subst e1
  subst e3
  obtain ⟨gv, ov, rfl, hgv, c0⟩ := hr.ints (k := x) hxl
  have i0 : (0 : Int) ≤ (x : Int) := Int.natCast_nonneg _
  have i1 : (x : Int) < (ls.length : Int) := by omega
  have Hs2 := Lib.hid hs2
  have Hg2 := Lib.hid hg2
  clear hr hs2 hg2 hx
  go_wp2
  go_ret
  exact ⟨intsAt ls x, by rw [intsAt_lt hxl]; exact List.getElem_mem hxl, rfl, Hs2.out, Hg2.out⟩

end Go.Proofs.Ytecfkomijaakhaa
