/- l24Name; the draws of chapter 24: DrawReservePieces, DrawReleasePieces, DrawFillBin, DrawOrderList. Printed by gen_drawbq.py. -/
import Derived.Test.YtngphnfbfednnaaDrawD
import Derived.Test.YtngphnfbfednnaaCode
import Derived.OwnWalk
namespace Go.Proofs.Ytngphnfbfednnaa
open Go.RowKit

set_option maxHeartbeats 4000000 in
theorem name_any (w : World) (base g : Nat) (A : Option Addr) (n c : Nat) (L : List Bin) (Ao : Option Addr) (co B : Nat) (hs : Src w base g A n c) (ho : w.ownsRow B 58 5 (.slice Ao L.length co) L.length (binRow L)) (hone : (Value.slice Ao L.length co).ownBlock ≠ some g) (hf : binFit L) (hl : L.length ≤ 100) :
    Calls Try.prog 78 #[.pointer (some ⟨g, 0, none⟩), .slice Ao L.length co] w fun e w' => ∃ nm : ByteArray, e = .returned (.string nm) ∧ nm.size ≤ maxLen ∧ Src w' base g A n c ∧ w.grownBy w' (some g) := by
  have Hs := Lib.hid hs
  have hgl := hs.lt
  have Ho := Lib.hid ho
  have Hone := Lib.hid hone
  have Hf := Lib.hid hf
  clear hs ho hone hf
  go_enter Try.func78, Try.ntmps78
  by_cases hlt : 0 < L.length
  · have hli : (0 : Int) < (L.length : Int) := by omega
    go_wp2_with fail
    refine (next_any _ base g A n c 8 Hs.out).mono ?_
    rintro e w2 ⟨y, rfl, hy, hs2, hg2⟩
    have Hs2 := Lib.hid hs2
    have Hg2 := Lib.hid hg2
    have Ho2 := Lib.hid (Ho.out.kept hg2 (.inr Hone.out))
    have hgl2 := hs2.lt
    clear hs2 hg2 hy
    by_cases hy0 : 0 < y
    · go_wp2_with fail
      refine (next_any _ base g A n c (L.length : Int) Hs2.out).mono ?_
      rintro e w3 ⟨z, rfl, hz0, hs3, hg3⟩
      have hz : z < L.length := by omega
      have Hs3 := Lib.hid hs3
      have Hg3 := Lib.hid (gb_trans Hg2.out hg3)
      have Ho3 := Lib.hid (Ho2.out.kept hg3 (.inr Hone.out))
      have Hnm := Lib.hid (Hf.out z hz)
      obtain ⟨gl, ol, rfl, hgl9, d0, d1, d2, d3, d4⟩ := (Rd.of_own Ho3.out).bin hz
      have j0 : (0 : Int) ≤ (z : Int) := Int.natCast_nonneg _
      have j1 : (z : Int) < (L.length : Int) := by omega
      clear hs3 hg3 hz0
      go_wp2
      go_ret
      exact ⟨_, rfl, Hnm.out, Hs3.out, Hg3.out⟩
    · skip
      have KT := Lib.hid (Blk.new w2 9 #[.string ⟨#[110, 111, 110, 101]⟩, .string ⟨#[]⟩, .string ⟨#[98, 111, 108, 116]⟩])
      go_wp2_with fail
      refine (next_any _ base g A n c 3 (Hs2.out.below ((Below.refl _ _).alloc (Nat.le_refl _) (.cells #[.string ⟨#[110, 111, 110, 101]⟩, .string ⟨#[]⟩, .string ⟨#[98, 111, 108, 116]⟩] 9)))).mono ?_
      rintro e w9 ⟨z, rfl, hz0, hs9, hg9⟩
      have hz : z < 3 := by omega
      have KT9 := Lib.hid (KT.out.grown hg9 (fun e => by injection e; omega))
      have Hs9 := Lib.hid hs9
      have Hg9 := Lib.hid (gb_trans (gb_below Hg2.out ((Below.refl _ _).alloc (Nat.le_refl _) (.cells #[.string ⟨#[110, 111, 110, 101]⟩, .string ⟨#[]⟩, .string ⟨#[98, 111, 108, 116]⟩] 9))) hg9)
      clear hs9 hg9 hz0
      obtain ⟨nm, hnm, cT⟩ : ∃ nm : ByteArray, nm.size ≤ maxLen ∧ w9.cell? ⟨w2.heap.size, z, none⟩ = some (.string nm) := by
        rw [KT9.out.cell z]
        match z, hz with
        | 0, _ => exact ⟨_, by simp [ByteArray.size, maxLen], rfl⟩
        | 1, _ => exact ⟨_, by simp [ByteArray.size, maxLen], rfl⟩
        | 2, _ => exact ⟨_, by simp [ByteArray.size, maxLen], rfl⟩
      have j0 : (0 : Int) ≤ (z : Int) := Int.natCast_nonneg _
      have j1 : (z : Int) < 3 := by omega
      go_wp2
      go_ret
      exact ⟨nm, rfl, hnm, Hs9.out, Hg9.out⟩
  · have hli : ¬ (0 : Int) < (L.length : Int) := by omega
    clear hlt
    have KT := Lib.hid (Blk.new w 9 #[.string ⟨#[110, 111, 110, 101]⟩, .string ⟨#[]⟩, .string ⟨#[98, 111, 108, 116]⟩])
    go_wp2_with fail
    refine (next_any _ base g A n c 3 (Hs.out.below ((Below.refl _ _).alloc (Nat.le_refl _) (.cells #[.string ⟨#[110, 111, 110, 101]⟩, .string ⟨#[]⟩, .string ⟨#[98, 111, 108, 116]⟩] 9)))).mono ?_
    rintro e w9 ⟨z, rfl, hz0, hs9, hg9⟩
    have hz : z < 3 := by omega
    have KT9 := Lib.hid (KT.out.grown hg9 (fun e => by injection e; omega))
    have Hs9 := Lib.hid hs9
    have Hg9 := Lib.hid (gb_trans (gb_below (gb_refl w (some g)) ((Below.refl _ _).alloc (Nat.le_refl _) (.cells #[.string ⟨#[110, 111, 110, 101]⟩, .string ⟨#[]⟩, .string ⟨#[98, 111, 108, 116]⟩] 9))) hg9)
    clear hs9 hg9 hz0
    obtain ⟨nm, hnm, cT⟩ : ∃ nm : ByteArray, nm.size ≤ maxLen ∧ w9.cell? ⟨w.heap.size, z, none⟩ = some (.string nm) := by
      rw [KT9.out.cell z]
      match z, hz with
      | 0, _ => exact ⟨_, by simp [ByteArray.size, maxLen], rfl⟩
      | 1, _ => exact ⟨_, by simp [ByteArray.size, maxLen], rfl⟩
      | 2, _ => exact ⟨_, by simp [ByteArray.size, maxLen], rfl⟩
    have j0 : (0 : Int) ≤ (z : Int) := Int.natCast_nonneg _
    have j1 : (z : Int) < 3 := by omega
    go_wp2
    go_ret
    exact ⟨nm, rfl, hnm, Hs9.out, Hg9.out⟩

set_option maxHeartbeats 4000000 in
theorem drawReserve_any (w : World) (A : Option Addr) (n c : Nat) (hcode : Code w A n) (hn : n ≤ 4096) (hc : n ≤ c ∧ c ≤ maxLen) :
    Calls Try.prog 52 #[.slice A n c] w fun e w' => ∃ (L : List Bin) (v : Value) (s : ByteArray) (m : Int), e = .returned (.tuple #[v, .string s, .int .i64 m]) ∧ w'.ownsRow w.heap.size 58 5 v L.length (binRow L) ∧ binFit L ∧ L.length ≤ 21 ∧ s.size ≤ maxLen ∧ Below w.heap.size w w' := by
  go_enter Try.func52, Try.ntmps52
  go_wp2_with fail
  refine (from_any w A n c hcode hn hc).mono ?_
  rintro e w2 ⟨rfl, hs2, hb2⟩
  have Hs2 := Lib.hid hs2
  have hsz2 := hb2.size
  have hgl2 := hs2.lt
  clear hs2
  go_wp2_with fail
  refine (draw_any w2 w.heap.size w.heap.size A n c Hs2.out).mono ?_
  rintro e w3 ⟨L, v, rfl, ho3, hf, hL, hs3, hg3⟩
  obtain ⟨Ao, co, rfl, hoc, hoc2⟩ := own_slice ho3
  have Hs3 := Lib.hid hs3
  have hone : (Value.slice Ao L.length co).ownBlock ≠ some w.heap.size := fun h => by have := (World.ownsRow.lt ho3 _ h).1; omega
  have Hone := Lib.hid hone
  have Ho3 := Lib.hid ho3
  have Hf := Lib.hid hf
  have hgl3 : w.heap.size < w3.heap.size := hs3.lt
  have b3 : Below w.heap.size w w3 := hb2.trans (below_gb hg3 (Nat.le_refl _) (by omega))
  clear hs3 hg3 ho3 hone hf
  go_wp2_with fail
  refine (name_any _ _ _ A n c L Ao co _ Hs3.out Ho3.out Hone.out Hf.out (by omega)).mono ?_
  rintro e w4 ⟨nm, rfl, hnm, hs, hg⟩
  have Hnm := Lib.hid hnm
  clear hnm
  have Ho4 := Lib.hid (Ho3.out.kept hg (.inr Hone.out))
  have Hs4 := Lib.hid hs
  have b4 : Below w.heap.size w w4 := b3.trans (below_gb hg (Nat.le_refl _) (by first | omega | (simp; omega)))
  have hgl4 : w.heap.size < w4.heap.size := hs.lt
  clear hg hs
  go_wp2_with fail
  refine (next_any _ w.heap.size w.heap.size A n c 8 Hs4.out).mono ?_
  rintro e w5 ⟨x, rfl, hx, hs, hg⟩
  have hx : x < 8 := by omega
  clear hx
  have Ho5 := Lib.hid (Ho4.out.kept hg (.inr Hone.out))
  have Hs5 := Lib.hid hs
  have b5 : Below w.heap.size w w5 := b4.trans (below_gb hg (Nat.le_refl _) (by first | omega | (simp; omega)))
  have hgl5 : w.heap.size < w5.heap.size := hs.lt
  clear hg hs
  have x1 := IntWalk.i64_in (1 + (x : Int)) (by omega)
  go_wp2_with fail
  refine (next_any _ w.heap.size w.heap.size A n c 4 Hs5.out).mono ?_
  rintro e w6 ⟨y, rfl, hx, hs, hg⟩
  have hy : y < 4 := by omega
  clear hx
  have Ho6 := Lib.hid (Ho5.out.kept hg (.inr Hone.out))
  have Hs6 := Lib.hid hs
  have b6 : Below w.heap.size w w6 := b5.trans (below_gb hg (Nat.le_refl _) (by first | omega | (simp; omega)))
  have hgl6 : w.heap.size < w6.heap.size := hs.lt
  clear hg hs
  have y1 := IntWalk.i64_in (1 + (y : Int)) (by omega)
  go_wp2_with fail
  refine (pick_any _ w.heap.size w.heap.size A n c [1 + (x : Int), 1, 0, 100000, 100001, 1 + (y : Int)] _ (Hs6.out.below ((Below.refl _ _).alloc (Nat.le_refl _) (.cells #[.int .i64 (1 + (x : Int)), .int .i64 1, .int .i64 0, .int .i64 100000, .int .i64 100001, .int .i64 (1 + (y : Int))] 2))) (by exact sl_laid w6 [1 + (x : Int), 1, 0, 100000, 100001, 1 + (y : Int)] (by simp [maxLen])) (by simp) (by simp) (fun h => by have : w6.heap.size = w.heap.size := (by simpa [Value.ownBlock] using h); omega)).mono ?_
  rintro e w7 ⟨m, hmm, rfl, hs, hg⟩
  clear hmm
  have Ho7 := Lib.hid ((Ho6.out.alloc _).kept hg (.inr Hone.out))
  have Hs7 := Lib.hid hs
  have b7 : Below w.heap.size w w7 := (b6.alloc (by have := b6.size; first | omega | (simp; omega)) (.cells #[.int .i64 (1 + (x : Int)), .int .i64 1, .int .i64 0, .int .i64 100000, .int .i64 100001, .int .i64 (1 + (y : Int))] 2)).trans (below_gb hg (Nat.le_refl _) (by first | omega | (simp; omega)))
  have hgl7 : w.heap.size < w7.heap.size := hs.lt
  clear hg hs
  go_wp2
  go_ret3
  exact ⟨L, _, nm, m, rfl, own_base Ho7.out hsz2, Hf.out, hL, Hnm.out, b7⟩

set_option maxHeartbeats 1600000 in
theorem drawRelease_any (w : World) (A : Option Addr) (n c : Nat) (hcode : Code w A n) (hn : n ≤ 4096) (hc : n ≤ c ∧ c ≤ maxLen) :
    Calls Try.prog 53 #[.slice A n c] w fun e w' => ∃ (L : List Bin) (v : Value) (s : ByteArray) (m : Int), e = .returned (.tuple #[v, .string s, .int .i64 m]) ∧ w'.ownsRow w.heap.size 58 5 v L.length (binRow L) ∧ binFit L ∧ L.length ≤ 21 ∧ s.size ≤ maxLen ∧ Below w.heap.size w w' := by
  go_enter Try.func53, Try.ntmps53
  go_wp2_with fail
  refine (drawReserve_any w A n c hcode hn hc).mono ?_
  rintro e w2 ⟨L, v, s, m, rfl, ho, hf, hl, hs, hb⟩
  have Ho := Lib.hid ho
  have Hf := Lib.hid hf
  have Hs := Lib.hid hs
  have Hb := Lib.hid hb
  clear ho hf hs hb
  go_wp2
  go_ret3
  exact ⟨L, v, s, m, rfl, Ho.out, Hf.out, hl, Hs.out, Hb.out⟩

set_option maxHeartbeats 1600000 in
theorem drawFill_any (w : World) (A : Option Addr) (n c : Nat) (hcode : Code w A n) (hn : n ≤ 4096) (hc : n ≤ c ∧ c ≤ maxLen) :
    Calls Try.prog 54 #[.slice A n c] w fun e w' => ∃ (L : List Bin) (v : Value) (s : ByteArray) (m : Int), e = .returned (.tuple #[v, .string s, .int .i64 m]) ∧ w'.ownsRow w.heap.size 58 5 v L.length (binRow L) ∧ binFit L ∧ L.length ≤ 21 ∧ s.size ≤ maxLen ∧ Below w.heap.size w w' := by
  go_enter Try.func54, Try.ntmps54
  go_wp2_with fail
  refine (drawReserve_any w A n c hcode hn hc).mono ?_
  rintro e w2 ⟨L, v, s, m, rfl, ho, hf, hl, hs, hb⟩
  have Ho := Lib.hid ho
  have Hf := Lib.hid hf
  have Hs := Lib.hid hs
  have Hb := Lib.hid hb
  clear ho hf hs hb
  go_wp2
  go_ret3
  exact ⟨L, v, s, m, rfl, Ho.out, Hf.out, hl, Hs.out, Hb.out⟩

set_option maxHeartbeats 4000000 in
theorem drawOrders_any (w : World) (A : Option Addr) (n c : Nat) (hcode : Code w A n) (hn : n ≤ 4096) (hc : n ≤ c ∧ c ≤ maxLen) :
    Calls Try.prog 45 #[.slice A n c] w fun e w' => ∃ (L : List Bin) (v : Value) , e = .returned (v) ∧ w'.ownsRow w.heap.size 58 5 v L.length (binRow L) ∧ binFit L ∧ L.length ≤ 21 ∧ Below w.heap.size w w' := by
  go_enter Try.func45, Try.ntmps45
  go_wp2_with fail
  refine (from_any w A n c hcode hn hc).mono ?_
  rintro e w2 ⟨rfl, hs2, hb2⟩
  have Hs2 := Lib.hid hs2
  have hsz2 := hb2.size
  have hgl2 := hs2.lt
  clear hs2
  go_wp2_with fail
  refine (draw_any w2 w.heap.size w.heap.size A n c Hs2.out).mono ?_
  rintro e w3 ⟨L, v, rfl, ho3, hf, hL, hs3, hg3⟩
  obtain ⟨Ao, co, rfl, hoc, hoc2⟩ := own_slice ho3
  have Hs3 := Lib.hid hs3
  have hone : (Value.slice Ao L.length co).ownBlock ≠ some w.heap.size := fun h => by have := (World.ownsRow.lt ho3 _ h).1; omega
  have Hone := Lib.hid hone
  have Ho3 := Lib.hid ho3
  have Hf := Lib.hid hf
  have hgl3 : w.heap.size < w3.heap.size := hs3.lt
  have b3 : Below w.heap.size w w3 := hb2.trans (below_gb hg3 (Nat.le_refl _) (by omega))
  clear hs3 hg3 ho3 hone hf
  go_wp2
  go_ret
  exact ⟨L, _, rfl, own_base Ho3.out hsz2, Hf.out, hL, b3⟩

end Go.Proofs.Ytngphnfbfednnaa
