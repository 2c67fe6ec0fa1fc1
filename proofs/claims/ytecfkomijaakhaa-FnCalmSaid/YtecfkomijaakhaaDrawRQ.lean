/- The draws of chapter 21: DrawIsOrder, DrawChangesOf, DrawAllAfter, DrawLongestChain, DrawCalmOrder. Printed by gen_drawrq.py. -/
import Derived.Test.YtecfkomijaakhaaDrawRD
import Derived.Test.YtecfkomijaakhaaRecB
import Derived.Test.YtecfkomijaakhaaCode
import Derived.OwnWalk
namespace Go.Proofs.Ytecfkomijaakhaa
open Go.RowKit

set_option maxHeartbeats 8000000 in
theorem drawChain_any (w : World) (A : Option Addr) (n c : Nat) (hcode : Code w A n) (hn : n ≤ 4096) (hc : n ≤ c ∧ c ≤ maxLen) :
    Calls Try.prog 48 #[.slice A n c] w fun e w' => ∃ (L : List Step) (V : Value), e = .returned (V) ∧ Steps w' V L ∧ L.length ≤ 10 ∧ Below w.heap.size w w' := by
  go_enter Try.func48, Try.ntmps48
  go_wp2_with fail
  refine (from_any w A n c hcode hn hc).mono ?_
  rintro e w2 ⟨rfl, hs2, hb2⟩
  have Hs2 := Lib.hid hs2
  have hsz2 := hb2.size
  have hgl2 := hs2.lt
  clear hs2
  go_wp2_with fail
  refine (drawS_any w2 w.heap.size w.heap.size A n c Hs2.out).mono ?_
  rintro e w3 ⟨L, V, rfl, hO, hL, hs3, hg3⟩
  obtain ⟨Ao, co, rfl, _, _⟩ : ∃ Ao co, V = .slice Ao L.length co ∧ L.length ≤ co ∧ co ≤ maxLen := by
    obtain ⟨xs, ho, _⟩ := hO
    exact own_slice ho
  have HO3 := Lib.hid hO
  have Hs3 := Lib.hid hs3
  have hgl3 : w.heap.size < w3.heap.size := hs3.lt
  have b3 : Below w.heap.size w w3 := hb2.trans (below_gb hg3 (Nat.le_refl _) (by omega))
  clear hO hs3 hg3
  go_wp2
  go_ret
  exact ⟨L, _, rfl, HO3.out.steps, hL, b3⟩

set_option maxHeartbeats 8000000 in
theorem drawCalm_any (w : World) (A : Option Addr) (n c : Nat) (hcode : Code w A n) (hn : n ≤ 4096) (hc : n ≤ c ∧ c ≤ maxLen) :
    Calls Try.prog 51 #[.slice A n c] w fun e w' => ∃ (L : List Step) (V : Value), e = .returned (V) ∧ Steps w' V L ∧ L.length ≤ 10 ∧ Below w.heap.size w w' := by
  go_enter Try.func51, Try.ntmps51
  go_wp2_with fail
  refine (from_any w A n c hcode hn hc).mono ?_
  rintro e w2 ⟨rfl, hs2, hb2⟩
  have Hs2 := Lib.hid hs2
  have hsz2 := hb2.size
  have hgl2 := hs2.lt
  clear hs2
  go_wp2_with fail
  refine (drawS_any w2 w.heap.size w.heap.size A n c Hs2.out).mono ?_
  rintro e w3 ⟨L, V, rfl, hO, hL, hs3, hg3⟩
  obtain ⟨Ao, co, rfl, _, _⟩ : ∃ Ao co, V = .slice Ao L.length co ∧ L.length ≤ co ∧ co ≤ maxLen := by
    obtain ⟨xs, ho, _⟩ := hO
    exact own_slice ho
  have HO3 := Lib.hid hO
  have Hs3 := Lib.hid hs3
  have hgl3 : w.heap.size < w3.heap.size := hs3.lt
  have b3 : Below w.heap.size w w3 := hb2.trans (below_gb hg3 (Nat.le_refl _) (by omega))
  clear hO hs3 hg3
  go_wp2
  go_ret
  exact ⟨L, _, rfl, HO3.out.steps, hL, b3⟩

set_option maxHeartbeats 8000000 in
theorem drawAfter_any (w : World) (A : Option Addr) (n c : Nat) (hcode : Code w A n) (hn : n ≤ 4096) (hc : n ≤ c ∧ c ≤ maxLen) :
    Calls Try.prog 49 #[.slice A n c] w fun e w' => ∃ (L : List Step) (V : Value) (m : Int), e = .returned (.tuple #[V, .int .i64 m]) ∧ Steps w' V L ∧ L.length ≤ 10 ∧ Below w.heap.size w w' := by
  go_enter Try.func49, Try.ntmps49
  go_wp2_with fail
  refine (from_any w A n c hcode hn hc).mono ?_
  rintro e w2 ⟨rfl, hs2, hb2⟩
  have Hs2 := Lib.hid hs2
  have hsz2 := hb2.size
  have hgl2 := hs2.lt
  clear hs2
  go_wp2_with fail
  refine (drawS_any w2 w.heap.size w.heap.size A n c Hs2.out).mono ?_
  rintro e w3 ⟨L, V, rfl, hO, hL, hs3, hg3⟩
  obtain ⟨Ao, co, rfl, _, _⟩ : ∃ Ao co, V = .slice Ao L.length co ∧ L.length ≤ co ∧ co ≤ maxLen := by
    obtain ⟨xs, ho, _⟩ := hO
    exact own_slice ho
  have HO3 := Lib.hid hO
  have Hs3 := Lib.hid hs3
  have hgl3 : w.heap.size < w3.heap.size := hs3.lt
  have b3 : Below w.heap.size w w3 := hb2.trans (below_gb hg3 (Nat.le_refl _) (by omega))
  clear hO hs3 hg3
  have x0 := IntWalk.i64_in ((L.length : Int) + 1) (by omega)
  go_wp2_with fail
  refine (next_any _ _ _ A n c ((L.length : Int) + 1) Hs3.out).mono ?_
  rintro e w4 ⟨x, rfl, hx, hs, hg⟩
  have hxl : x ≤ L.length := by omega
  have Hs4 := Lib.hid hs
  have b4 : Below w.heap.size w w4 := b3.trans (below_gb hg (Nat.le_refl _) (by omega))
  have HO4 := Lib.hid (HO3.out.src hg (by omega))
  have hgl4 := hs.lt
  clear hs hg hx x0
  go_wp2_with fail
  refine (next_any _ _ _ A n c 24 Hs4.out).mono ?_
  rintro e w5 ⟨y, rfl, hx, hs, hg⟩
  have hy : y < 24 := by omega
  have b5 : Below w.heap.size w w5 := b4.trans (below_gb hg (Nat.le_refl _) (by omega))
  have HO5 := Lib.hid (HO4.out.src hg (by omega))
  clear hs hg hx
  obtain ⟨d, hd⟩ : ∃ d, d = y / 23 := ⟨_, rfl⟩
  have hd1 : d ≤ 1 := by omega
  have r1 : (y : Int).tdiv 23 = (d : Int) := by rw [Int.tdiv_eq_ediv_of_nonneg (by omega)]; omega
  have r2 : (y : Int) / 23 = (d : Int) := by omega
  have r3 := IntWalk.i64_in (d : Int) (by omega)
  have r4 := IntWalk.i64_in ((x : Int) - (d : Int)) (by omega)
  clear hd
  go_wp2
  go_ret2
  exact ⟨L, _, _, rfl, HO5.out.steps, hL, b5⟩

set_option maxHeartbeats 8000000 in
theorem drawOrder_any (w : World) (A : Option Addr) (n c : Nat) (hcode : Code w A n) (hn : n ≤ 4096) (hc : n ≤ c ∧ c ≤ maxLen) :
    Calls Try.prog 45 #[.slice A n c] w fun e w' => ∃ (L : List Step) (V : Value) (P : List Int) (u : Value), e = .returned (.tuple #[V, u]) ∧ Steps w' V L ∧ L.length ≤ 10 ∧ w'.ownsRow w.heap.size 2 1 u P.length (intsRow P) ∧ P.length ≤ 11 ∧ Below w.heap.size w w' := by
  go_enter Try.func45, Try.ntmps45
  go_wp2_with fail
  refine (from_any w A n c hcode hn hc).mono ?_
  rintro e w2 ⟨rfl, hs2, hb2⟩
  have Hs2 := Lib.hid hs2
  have hsz2 := hb2.size
  have hgl2 := hs2.lt
  clear hs2
  go_wp2_with fail
  refine (drawS_any w2 w.heap.size w.heap.size A n c Hs2.out).mono ?_
  rintro e w3 ⟨L, V, rfl, hO, hL, hs3, hg3⟩
  obtain ⟨Ao, co, rfl, _, _⟩ : ∃ Ao co, V = .slice Ao L.length co ∧ L.length ≤ co ∧ co ≤ maxLen := by
    obtain ⟨xs, ho, _⟩ := hO
    exact own_slice ho
  have HO3 := Lib.hid hO
  have Hs3 := Lib.hid hs3
  have hgl3 : w.heap.size < w3.heap.size := hs3.lt
  have b3 : Below w.heap.size w w3 := hb2.trans (below_gb hg3 (Nat.le_refl _) (by omega))
  clear hO hs3 hg3
  obtain ⟨j0, hj, hy0, hy1, hy2⟩ := info_parts Try.info_ints
  go_wp2_with fail
  refine (specFirst_any w3 L _ HO3.out.steps hL).mono ?_
  rintro e w4 ⟨u, rfl, ho4, hb4⟩
  obtain ⟨Au, cu, rfl, hcu1, hcu2⟩ := own_slice ho4
  unfold maxLen at hcu2
  have hfl := Grown.le (firstOrd_grown L).1
  obtain ⟨F, hF⟩ : ∃ F, F = firstOrd L := ⟨_, rfl⟩
  rw [← hF] at ho4 hfl hcu1 ⊢
  obtain ⟨fl, hfl2⟩ : ∃ fl, fl = F.length := ⟨_, rfl⟩
  rw [← hfl2] at ho4 hfl hcu1 ⊢
  have HFL := Lib.hid hfl2
  have hsz3 := b3.size
  have hsz34 := hb4.size
  have Ho4 := Lib.hid ho4
  have Hg4 := Lib.hid (below_grown hb4 (some w.heap.size))
  have Hs4 := Lib.hid (Hs3.out.below hb4)
  have hgl4 : w.heap.size < w4.heap.size := by omega
  clear ho4 hb4 hF hfl2
  have NG := Lib.hid (show (Value.slice Au fl cu).ownBlock ≠ some w.heap.size from fun h => by have := (World.ownsRow.lt Ho4.out _ h).1; omega)
  go_wp2_with fail
  refine (next_any _ _ _ A n c 3 Hs4.out).mono ?_
  rintro e w5 ⟨k0, rfl, hx, hs, hg⟩
  have hk3 : k0 < 3 := by omega
  have Hs5 := Lib.hid hs
  have Hg5 := Lib.hid (gb_trans Hg4.out hg)
  have Ho5 := Lib.hid (Ho4.out.kept hg (.inr NG.out))
  clear hs hg hx
  go_wp2
  go_loopw [7] (fun kv wr => ∃ (k : Nat) (P : List Int), kv = .int .i64 k ∧ k ≤ 2 ∧ P.length = fl ∧ wr.ownsRow w3.heap.size 2 1 (.slice Au fl cu) fl (intsRow P) ∧ Src wr w.heap.size w.heap.size A n c ∧ w3.grownBy wr (some w.heap.size)) (fun kv _ => (intOf kv).toNat)
  case atStart => exact ⟨k0, F, rfl, by omega, HFL.out.symm, Ho5.out, Hs5.out, Hg5.out⟩
  case round =>
    clear Ho4 Ho5 Hs4 Hs5 Hs3 Hs2 Hg4 Hg5
    obtain ⟨k, P, rfl, hk, hPl, ho, hs, hg⟩ := hrel
    have HP := Lib.hid hPl
    have Ho := Lib.hid ho
    have Hs := Lib.hid hs
    have Hg := Lib.hid hg
    have hszr := hg.size
    have hglr := hs.lt
    clear hPl ho hs hg
    by_cases hk0 : 0 < k
    · have hki : (0 : Int) < (k : Int) := by omega
      by_cases hf1 : 1 < fl
      · have hfi : (1 : Int) < (fl : Int) := by omega
        go_wp2_with fail
        refine (next_any _ _ _ A n c (fl : Int) Hs.out).mono ?_
        rintro e w6 ⟨x, rfl, hx, hs, hg⟩
        have hxf : x < fl := by omega
        have Hs6 := Lib.hid hs
        have Ho6 := Lib.hid (Ho.out.kept hg (.inr NG.out))
        have Hg6 := Lib.hid (gb_trans Hg.out hg)
        have hgl6 := hs.lt
        have hsz106 := Hg6.out.size
        clear hs hg hx
        go_wp2_with fail
        refine (next_any _ _ _ A n c (fl : Int) Hs6.out).mono ?_
        rintro e w7 ⟨y, rfl, hx, hs, hg⟩
        have hyf : y < fl := by omega
        have Hs7 := Lib.hid hs
        have Ho7 := Lib.hid (Ho6.out.kept hg (.inr NG.out))
        have Hg7 := Lib.hid (gb_trans Hg6.out hg)
        have hgl7 := hs.lt
        have hsz107 := Hg7.out.size
        clear hs hg hx
        obtain ⟨gu, cc, hv, hgu1, hgu2⟩ := own_form Ho7.out (by omega)
        injection hv with hv1 hv2 hv3
        subst hv1
        subst hv3
        have q0 := (Ho7.out.cellAt x (by omega)).trans (intsRow_at P x (by rw [HP.out]; exact hxf))
        have q1 := (Ho7.out.cellAt y (by omega)).trans (intsRow_at P y (by rw [HP.out]; exact hyf))
        have fx := Ho7.out.frozenAt x
        have fy := Ho7.out.frozenAt y
        obtain ⟨vx, hvx⟩ : ∃ vx, vx = intsAt P x := ⟨_, rfl⟩
        obtain ⟨vy, hvy⟩ : ∃ vy, vy = intsAt P y := ⟨_, rfl⟩
        rw [← hvx] at q0
        rw [← hvy] at q1
        clear hvx hvy
        have fy2 := (Ho7.out.stored x (.int .i64 vy)).1.frozenAt y
        obtain ⟨cy, hcy⟩ := own_cell (Ho7.out.stored x (.int .i64 vy)).1 (j := y) (by omega)
        have j1 : (0 : Int) ≤ (x : Int) := Int.natCast_nonneg _
        have j2 : (x : Int) < (fl : Int) := by omega
        have j3 : (0 : Int) ≤ (y : Int) := Int.natCast_nonneg _
        have j4 : (y : Int) < (fl : Int) := by omega
        have j5 := IntWalk.i64_in ((k : Int) - 1) (by omega)
        have HoS := Lib.hid (show ((w7.setCell ⟨gu, x, none⟩ (.int .i64 vy)).setCell ⟨gu, y, none⟩ (.int .i64 vx)).ownsRow w3.heap.size 2 1 (.slice (some ⟨gu, 0, none⟩) fl cu) fl (intsRow ((P.set x vy).set y vx)) by rw [← intsRow_set, ← intsRow_set]; exact ((Ho7.out.stored x _).1.stored y _).1)
        have kS : w7.grownBy ((w7.setCell ⟨gu, x, none⟩ (.int .i64 vy)).setCell ⟨gu, y, none⟩ (.int .i64 vx)) (some gu) := gb_trans (gb_set _ ⟨gu, x, none⟩ _) (gb_set _ ⟨gu, y, none⟩ _)
        have HgS := Lib.hid (gb_other Hg7.out kS (fun r hr => by injection hr; omega))
        have HsS := Lib.hid (Hs7.out.other kS (fun r hr => by injection hr; omega))
        have HPS := Lib.hid (show ((P.set x vy).set y vx).length = fl by rw [List.length_set, List.length_set, HP.out])
        clear kS
        go_wp2
        go_roundw
        case rel => exact ⟨k - 1, (P.set x vy).set y vx, by go_num, by omega, HPS.out, HoS.out, HsS.out, HgS.out⟩
        case measure => simp [intOf]; omega
      · have hfi : ¬ (1 : Int) < (fl : Int) := by omega
        go_wp2_with fail
        refine (next_any _ _ _ A n c 24 Hs.out).mono ?_
        rintro e w20 ⟨y, rfl, hx, hs, hg⟩
        have Hs20 := Lib.hid hs
        have Ho20 := Lib.hid (Ho.out.kept hg (.inr NG.out))
        have Hg20 := Lib.hid (gb_trans Hg.out hg)
        have hgl20 := hs.lt
        have hsz120 := Hg20.out.size
        clear hs hg hx
        by_cases hy0 : y = 0
        · subst hy0
          go_wp2_with fail
          refine (next_any _ _ _ A n c 9 Hs20.out).mono ?_
          rintro e w21 ⟨z, rfl, hx, hs, hg⟩
          have Hs21 := Lib.hid hs
          have Ho21 := Lib.hid (Ho20.out.kept hg (.inr NG.out))
          have Hg21 := Lib.hid (gb_trans Hg20.out hg)
          have hgl21 := hs.lt
          have hsz121 := Hg21.out.size
          clear hs hg hx
          go_wp2_with (at_builtin; refine wpList_append_sl _ rfl (.tmp 54) (.tmp 57) _ rfl w3.heap.size 2 j0 _ 1 8 Try.underlying29 hj hy0 hy1 hy2 rfl (by omega) _ fl (intsRow P) rfl (Ho21.out.alloc _) (some ⟨w21.heap.size, 0, none⟩) 1 1 [.int .i64 (z : Int)] rfl (Rd.of_block (cs := #[.int .i64 (z : Int)]) (heap_alloc_new _ _) rfl) (by intro x hx; simp at hx; subst hx; rfl) (by unfold maxLen; omega) (by omega) (by simp; omega) ?_; intro A9 c9 w9 ho9 hg9 hor9)
          have hg9s : (w21.alloc (.cells #[.int .i64 (z : Int)] 2)).grownBy w9 (Value.slice Au fl cu).ownBlock := hg9
          have hrow : (∀ r, (Value.slice Au fl cu).ownBlock = some r → w3.heap.size ≤ r ∧ r < w21.heap.size) := (fun r hr => World.ownsRow.lt Ho21.out r hr)
          have Hg9 := Lib.hid (gb_other (gb_below Hg21.out ((Below.refl _ _).alloc (Nat.le_refl _) (.cells #[.int .i64 (z : Int)] 2))) hg9s (fun r hr => (hrow r hr).1))
          have Ho9 := Lib.hid (show w9.ownsRow w3.heap.size 2 1 (.slice A9 (fl + 1) c9) (P ++ [(z : Int)]).length (intsRow (P ++ [(z : Int)])) by rw [List.length_append, intsRow_append, HP.out]; exact ho9)
          clear ho9 hg9 hor9 hrow hg9s
          go_wp2
          go_ret2
          exact ⟨L, _, P ++ [(z : Int)], _, rfl, (HO3.out.src Hg9.out (by omega)).steps, hL, own_base Ho9.out (by omega), by rw [List.length_append, HP.out]; simp; omega, b3.trans (below_gb Hg9.out (Nat.le_refl _) (by omega))⟩
        · have uy : ((y : Int) == 0) = false := by simp; omega
          go_wp2
          go_ret2
          exact ⟨L, _, P, _, rfl, (HO3.out.src Hg20.out (by omega)).steps, hL, by rw [HP.out]; exact own_base Ho20.out (by omega), by rw [HP.out]; omega, b3.trans (below_gb Hg20.out (Nat.le_refl _) (by omega))⟩
    · have hke : k = 0 := by omega
      subst hke
      clear hk0
      go_wp2_with fail
      refine (next_any _ _ _ A n c 24 Hs.out).mono ?_
      rintro e w20 ⟨y, rfl, hx, hs, hg⟩
      have Hs20 := Lib.hid hs
      have Ho20 := Lib.hid (Ho.out.kept hg (.inr NG.out))
      have Hg20 := Lib.hid (gb_trans Hg.out hg)
      have hgl20 := hs.lt
      have hsz120 := Hg20.out.size
      clear hs hg hx
      by_cases hy0 : y = 0
      · subst hy0
        go_wp2_with fail
        refine (next_any _ _ _ A n c 9 Hs20.out).mono ?_
        rintro e w21 ⟨z, rfl, hx, hs, hg⟩
        have Hs21 := Lib.hid hs
        have Ho21 := Lib.hid (Ho20.out.kept hg (.inr NG.out))
        have Hg21 := Lib.hid (gb_trans Hg20.out hg)
        have hgl21 := hs.lt
        have hsz121 := Hg21.out.size
        clear hs hg hx
        go_wp2_with (at_builtin; refine wpList_append_sl _ rfl (.tmp 54) (.tmp 57) _ rfl w3.heap.size 2 j0 _ 1 8 Try.underlying29 hj hy0 hy1 hy2 rfl (by omega) _ fl (intsRow P) rfl (Ho21.out.alloc _) (some ⟨w21.heap.size, 0, none⟩) 1 1 [.int .i64 (z : Int)] rfl (Rd.of_block (cs := #[.int .i64 (z : Int)]) (heap_alloc_new _ _) rfl) (by intro x hx; simp at hx; subst hx; rfl) (by unfold maxLen; omega) (by omega) (by simp; omega) ?_; intro A9 c9 w9 ho9 hg9 hor9)
        have hg9s : (w21.alloc (.cells #[.int .i64 (z : Int)] 2)).grownBy w9 (Value.slice Au fl cu).ownBlock := hg9
        have hrow : (∀ r, (Value.slice Au fl cu).ownBlock = some r → w3.heap.size ≤ r ∧ r < w21.heap.size) := (fun r hr => World.ownsRow.lt Ho21.out r hr)
        have Hg9 := Lib.hid (gb_other (gb_below Hg21.out ((Below.refl _ _).alloc (Nat.le_refl _) (.cells #[.int .i64 (z : Int)] 2))) hg9s (fun r hr => (hrow r hr).1))
        have Ho9 := Lib.hid (show w9.ownsRow w3.heap.size 2 1 (.slice A9 (fl + 1) c9) (P ++ [(z : Int)]).length (intsRow (P ++ [(z : Int)])) by rw [List.length_append, intsRow_append, HP.out]; exact ho9)
        clear ho9 hg9 hor9 hrow hg9s
        go_wp2
        go_ret2
        exact ⟨L, _, P ++ [(z : Int)], _, rfl, (HO3.out.src Hg9.out (by omega)).steps, hL, own_base Ho9.out (by omega), by rw [List.length_append, HP.out]; simp; omega, b3.trans (below_gb Hg9.out (Nat.le_refl _) (by omega))⟩
      · have uy : ((y : Int) == 0) = false := by simp; omega
        go_wp2
        go_ret2
        exact ⟨L, _, P, _, rfl, (HO3.out.src Hg20.out (by omega)).steps, hL, by rw [HP.out]; exact own_base Ho20.out (by omega), by rw [HP.out]; omega, b3.trans (below_gb Hg20.out (Nat.le_refl _) (by omega))⟩

end Go.Proofs.Ytecfkomijaakhaa
