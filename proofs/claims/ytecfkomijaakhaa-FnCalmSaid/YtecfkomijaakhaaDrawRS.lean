/- DrawRemainingMinutes, DrawChangesOf. Printed by gen_drawrs.py. -/
import Derived.Test.YtecfkomijaakhaaSortR
namespace Go.Proofs.Ytecfkomijaakhaa
open Go.RowKit

set_option maxHeartbeats 1600000 in
theorem drawChanges_any (w : World) (A : Option Addr) (n c : Nat) (hcode : Code w A n) (hn : n ≤ 4096) (hc : n ≤ c ∧ c ≤ maxLen) :
    Calls Try.prog 52 #[.slice A n c] w fun e w' => ∃ (L : List Step) (V : Value) (P : List Int) (u : Value), e = .returned (.tuple #[V, u]) ∧ Steps w' V L ∧ L.length ≤ 10 ∧ w'.ownsRow w.heap.size 2 1 u P.length (intsRow P) ∧ P.length ≤ 11 ∧ Below w.heap.size w w' := by
  go_enter Try.func52, Try.ntmps52
  go_wp2_with fail
  refine (drawOrder_any w A n c hcode hn hc).mono ?_
  rintro e w2 ⟨L, V, P, u, rfl, hO, hL, ho, hP, hb⟩
  have HO := Lib.hid hO
  have Ho := Lib.hid ho
  have Hb := Lib.hid hb
  clear hO ho hb
  go_wp2
  go_ret2
  exact ⟨L, V, P, u, rfl, HO.out, hL, Ho.out, hP, Hb.out⟩

set_option maxHeartbeats 8000000 in
theorem drawRemain_any (w : World) (A : Option Addr) (n c : Nat) (hcode : Code w A n) (hn : n ≤ 4096) (hc : n ≤ c ∧ c ≤ maxLen) :
    Calls Try.prog 46 #[.slice A n c] w fun e w' => ∃ (L : List Step) (V : Value) (P : List Int) (u : Value), e = .returned (.tuple #[V, u]) ∧ Steps w' V L ∧ L.length ≤ 10 ∧ w'.ownsRow w.heap.size 2 1 u P.length (intsRow P) ∧ P.length ≤ 11 ∧ Below w.heap.size w w' := by
  go_enter Try.func46, Try.ntmps46
  go_wp2_with fail
  refine (from_any w A n c hcode hn hc).mono ?_
  rintro e w2 ⟨rfl, hs2, hb2⟩
  have Hs2 := Lib.hid hs2
  have hsz2 := hb2.size
  have hgl2 := hs2.lt
  clear hs2
  go_wp2_with fail
  refine (drawS_any w2 w.heap.size w.heap.size A n c Hs2.out).mono ?_
  rintro e w3 ⟨L, V, rfl, hO, hL, hs3, hg3⟩
  obtain ⟨Ao, co, rfl, _, _⟩ : ∃ Ao co, V = .slice Ao L.length co ∧ L.length ≤ co ∧ co ≤ maxLen := by
    obtain ⟨xs, ho, _⟩ := hO
    exact own_slice ho
  have HO3 := Lib.hid hO
  have Hs3 := Lib.hid hs3
  have hgl3 : w.heap.size < w3.heap.size := hs3.lt
  have b3 : Below w.heap.size w w3 := hb2.trans (below_gb hg3 (Nat.le_refl _) (by omega))
  clear hO hs3 hg3
  go_wp2_with fail
  refine (specFirst_any w3 L _ HO3.out.steps hL).mono ?_
  rintro e w4 ⟨u, rfl, ho4, hb4⟩
  obtain ⟨Au, cu, rfl, hcu1, hcu2⟩ := own_slice ho4
  have HCU := Lib.hid hcu2
  unfold maxLen at hcu2
  have hfl := Grown.le (firstOrd_grown L).1
  obtain ⟨F, hF⟩ : ∃ F, F = firstOrd L := ⟨_, rfl⟩
  rw [← hF] at ho4 hfl hcu1 ⊢
  obtain ⟨fl, hfl2⟩ : ∃ fl, fl = F.length := ⟨_, rfl⟩
  rw [← hfl2] at ho4 hfl hcu1 ⊢
  have HFL := Lib.hid hfl2
  have hsz3 := b3.size
  have hsz34 := hb4.size
  have Ho4 := Lib.hid ho4
  have Hg4 := Lib.hid (below_grown hb4 (some w.heap.size))
  have Hs4 := Lib.hid (Hs3.out.below hb4)
  have hgl4 : w.heap.size < w4.heap.size := by omega
  clear ho4 hb4 hF hfl2
  have NG := Lib.hid (show (Value.slice Au fl cu).ownBlock ≠ some w.heap.size from fun h => by have := (World.ownsRow.lt Ho4.out _ h).1; omega)
  have x1 := IntWalk.i64_in ((fl : Int) + 1) (by omega)
  go_wp2_with fail
  refine (next_any _ _ _ A n c ((fl : Int) + 1) Hs4.out).mono ?_
  rintro e w5 ⟨x, rfl, hx, hs, hg⟩
  have hxl : x ≤ fl := by omega
  have Hs5 := Lib.hid hs
  have Hg5 := Lib.hid (gb_trans Hg4.out hg)
  have Ho5 := Lib.hid (Ho4.out.kept hg (.inr NG.out))
  have hgl5 := hs.lt
  have hsz5 := Hg5.out.size
  clear hs hg hx x1
  have hsl : Sl w5 1 (.slice Au x cu) (F.take x).length (intsRow (F.take x)) := by
    rw [show (F.take x).length = x by rw [List.length_take, ← HFL.out]; omega, intsRow_take]
    exact ⟨Au, cu, rfl, by omega, HCU.out, (Rd.of_own Ho5.out).take hxl⟩
  have Hsl := Lib.hid hsl
  clear hsl
  have j1 : (0 : Int) ≤ (x : Int) := Int.natCast_nonneg _
  have j2 : (x : Int) ≤ (fl : Int) := by omega
  have j3 : (x : Int) ≤ (cu : Int) := by omega
  have j4 : x ≤ cu := by omega
  have HTL := Lib.hid (show (F.take x).length ≤ 10 by rw [List.length_take]; omega)
  go_wp2_with fail
  refine (specSort_any w5 (F.take x) _ Hsl.out (by have := HTL.out; omega)).mono ?_
  rintro e w6 ⟨D, u, cd, rfl, hod, hdl, hb6⟩
  have hsz6 := hb6.size
  have Hs6 := Lib.hid (Hs5.out.below hb6)
  have Hg6 := Lib.hid (gb_below Hg5.out hb6)
  have Hod := Lib.hid hod
  have hdl2 : D.length ≤ 10 := by have := HTL.out; omega
  have NGD := Lib.hid (show u.ownBlock ≠ some w.heap.size from fun h => by have := (World.ownsRow.lt hod _ h).1; omega)
  have hgl6 : w.heap.size < w6.heap.size := by omega
  clear hod hb6 hdl
  by_cases hcd : cd = 0
  · subst hcd
    go_wp2_with fail
    refine (next_any _ _ _ A n c 8 Hs6.out).mono ?_
    rintro e w7 ⟨y, rfl, hx, hs, hg⟩
    have Hs7 := Lib.hid hs
    have Hg7 := Lib.hid (gb_trans Hg6.out hg)
    have Hod7 := Lib.hid (Hod.out.kept hg (.inr NGD.out))
    have hgl7 := hs.lt
    clear hs hg hx
    by_cases hy0 : y = 0
    · subst hy0
      go_wp2_with fail
      refine (next_any _ _ _ A n c 6 Hs7.out).mono ?_
      rintro e w9 ⟨z, rfl, hx, hs, hg⟩
      have Hg9 := Lib.hid (gb_below (gb_trans Hg7.out hg) ((Below.refl _ _).alloc (Nat.le_refl _) (.cells #[.int .i64 (z : Int)] 2)))
      have hgl9 := hs.lt
      have HoZ := Lib.hid (show (w9.alloc (.cells #[.int .i64 (z : Int)] 2)).ownsRow w9.heap.size 2 1 (.slice (some ⟨w9.heap.size, 0, none⟩) 1 1) ([(z : Int)] : List Int).length (intsRow [(z : Int)]) from own_whole w9 #[.int .i64 (z : Int)] _ 1 1 (Nat.le_refl _) rfl (by simp [maxLen]))
      clear hs hg hx
      go_wp2
      go_ret2
      exact ⟨L, _, [(z : Int)], _, rfl, (HO3.out.src Hg9.out (by omega)).steps, hL, own_base HoZ.out (by omega), by simp, b3.trans (below_gb Hg9.out (Nat.le_refl _) (by omega))⟩
    · have uy : ((y : Int) == 0) = false := by simp; omega
      go_wp2
      go_ret2
      exact ⟨L, _, D, _, rfl, (HO3.out.src Hg7.out (by omega)).steps, hL, own_base Hod7.out (by omega), by omega, b3.trans (below_gb Hg7.out (Nat.le_refl _) (by omega))⟩
  · have uc : (cd != 0) = true := by simpa using hcd
    go_wp2_with fail
    refine (next_any _ _ _ A n c 6 Hs6.out).mono ?_
    rintro e w9 ⟨z, rfl, hx, hs, hg⟩
    have Hg9 := Lib.hid (gb_below (gb_trans Hg6.out hg) ((Below.refl _ _).alloc (Nat.le_refl _) (.cells #[.int .i64 (z : Int)] 2)))
    have hgl9 := hs.lt
    have HoZ := Lib.hid (show (w9.alloc (.cells #[.int .i64 (z : Int)] 2)).ownsRow w9.heap.size 2 1 (.slice (some ⟨w9.heap.size, 0, none⟩) 1 1) ([(z : Int)] : List Int).length (intsRow [(z : Int)]) from own_whole w9 #[.int .i64 (z : Int)] _ 1 1 (Nat.le_refl _) rfl (by simp [maxLen]))
    clear hs hg hx
    go_wp2
    go_ret2
    exact ⟨L, _, [(z : Int)], _, rfl, (HO3.out.src Hg9.out (by omega)).steps, hL, own_base HoZ.out (by omega), by simp, b3.trans (below_gb Hg9.out (Nat.le_refl _) (by omega))⟩

end Go.Proofs.Ytecfkomijaakhaa
