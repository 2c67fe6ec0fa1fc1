/- The walk of l24Good: a bin is drawn. Printed by gen_drawb.py. -/
import Derived.Test.YtngphnfbfednnaaSrcF
import Derived.Test.YtngphnfbfednnaaDraws
import Derived.Test.YtngphnfbfednnaaBinS
import Derived.Test.YtngphnfbfednnaaStrs
namespace Go.Proofs.Ytngphnfbfednnaa
open Go.RowKit

theorem binFit_app {L : List Bin} {p : Bin} (hf : binFit L) (hp : p.code.size ≤ maxLen) : binFit (L ++ [p]) := by
  intro i hi
  simp only [List.length_append, List.length_cons, List.length_nil] at hi
  by_cases h : i < L.length
  · rw [binAt_append_lt h]; exact hf i h
  · have : i = L.length := by omega
    subst this
    have : binAt (L ++ [p]) L.length = p := by simp [binAt, List.getD]
    rw [this]; exact hp

set_option maxHeartbeats 4000000 in
theorem good_any (w : World) (base g : Nat) (A : Option Addr) (n c : Nat) (s : ByteArray) (hs : Src w base g A n c) :
    Calls Try.prog 81 #[.pointer (some ⟨g, 0, none⟩), .string s] w fun e w' => ∃ p : Bin, e = .returned (.agg #[.string p.code, .int .i64 p.amount, .int .i64 p.reserved, .int .i64 p.point, .int .i64 p.lot]) ∧ p.code = s ∧ Src w' base g A n c ∧ w.grownBy w' (some g) := by
  have Hs := Lib.hid hs
  have hgl := hs.lt
  clear hs
  go_enter Try.func81, Try.ntmps81
  go_wp2_with fail
  refine (next_any _ base g A n c 20 (Hs.out.below ((Below.refl _ _).alloc (Nat.le_refl _) _))).mono ?_
  rintro e w2 ⟨x, rfl, hx, hs2, hg2⟩
  have hx5 : x < 20 := by omega
  have R2 := Lib.hid ((Blk.new w 58 #[.string ⟨#[]⟩, .int .i64 0, .int .i64 0, .int .i64 0, .int .i64 0]).grown hg2 (fun e => by injection e; omega))
  have G2 := Lib.hid (gb_trans (below_grown ((Below.refl _ _).alloc (Nat.le_refl _) (.cells #[.string ⟨#[]⟩, .int .i64 0, .int .i64 0, .int .i64 0, .int .i64 0] 58)) (some g)) hg2)
  have S2 := Lib.hid hs2
  clear hs2 hg2 hx
  go_wp2_with fail
  refine (next_any w2 base g A n c 12 S2.out).mono ?_
  rintro e w3 ⟨y, rfl, hy, hs3, hg3⟩
  have hy12 : y < 12 := by omega
  have R3 := Lib.hid (R2.out.grown hg3 (fun e => by injection e; omega))
  have G3 := Lib.hid (gb_trans G2.out hg3)
  have S3 := Lib.hid hs3
  clear hs3 hg3 hy
  go_wp2_with fail
  refine (next_any w3 base g A n c 9 S3.out).mono ?_
  rintro e w4 ⟨z, rfl, hz, hs4, hg4⟩
  have hz9 : z < 9 := by omega
  have R4 := Lib.hid (R3.out.grown hg4 (fun e => by injection e; omega))
  have G4 := Lib.hid (gb_trans G3.out hg4)
  have S4 := Lib.hid hs4
  have z1 := IntWalk.i64_in (1 + (z : Int)) (by omega)
  have x1 := IntWalk.i64_in ((x : Int) + 1) (by omega)
  have hsz := G4.out.size
  clear hs4 hg4 hz
  go_wp2_with fail
  refine (next_any _ base g A n c ((x : Int) + 1) (S4.out.below ((Below.refl _ _).alloc (Nat.le_refl _) _))).mono ?_
  rintro e w5 ⟨r, rfl, hr, hs5, hg5⟩
  have hgl4 : g < w4.heap.size := by omega
  have KB := Lib.hid ((Blk.new w4 58 #[.string s, .int .i64 (x : Int), .int .i64 0, .int .i64 (y : Int), .int .i64 (1 + (z : Int))]).grown hg5 (fun e => by injection e; omega))
  have R5 := Lib.hid ((R4.out.alloc (.cells #[.string s, .int .i64 (x : Int), .int .i64 0, .int .i64 (y : Int), .int .i64 (1 + (z : Int))] 58)).grown hg5 (fun e => by injection e; omega))
  have G5 := Lib.hid (gb_trans (gb_below G4.out ((Below.refl _ _).alloc (Nat.le_refl _) (.cells #[.string s, .int .i64 (x : Int), .int .i64 0, .int .i64 (y : Int), .int .i64 (1 + (z : Int))] 58))) hg5)
  have S5 := Lib.hid hs5
  have hne : w.heap.size ≠ w4.heap.size := by have := R4.out.lt; omega
  have b0 := KB.out.cell 0
  have b1 := KB.out.cell 1
  have b2 := KB.out.cell 2
  have b3 := KB.out.cell 3
  have b4 := KB.out.cell 4
  have c2 := KB.out.frozen 2
  have e0 := R5.out.cell 0
  have e1 := R5.out.cell 1
  have e2 := R5.out.cell 2
  have e3 := R5.out.cell 3
  have e4 := R5.out.cell 4
  have f0 := R5.out.frozen 0
  have f1 := R5.out.frozen 1
  have f2 := R5.out.frozen 2
  have f3 := R5.out.frozen 3
  have f4 := R5.out.frozen 4
  simp only [List.getElem?_toArray, List.getElem?_cons_zero, List.getElem?_cons_succ] at b0 b1 b2 b3 b4 e0 e1 e2 e3 e4
  clear hs5 hg5 hr
  go_wp2
  have k1 : w5.grownBy (w5.setCell ⟨w4.heap.size, 2, none⟩ (.int .i64 (r : Int))) (some w4.heap.size) := gb_set _ ⟨w4.heap.size, 2, none⟩ _
  have S6 := S5.out.other k1 (fun q hq => by injection hq; omega)
  have G6 := gb_other G5.out k1 (fun q hq => by injection hq; omega)
  have k2 : (w5.setCell ⟨w4.heap.size, 2, none⟩ (.int .i64 (r : Int))).grownBy ((((((w5.setCell ⟨w4.heap.size, 2, none⟩ (.int .i64 (r : Int))).setCell ⟨w.heap.size, 0, none⟩ (.string s)).setCell ⟨w.heap.size, 1, none⟩ (.int .i64 (x : Int))).setCell ⟨w.heap.size, 2, none⟩ (.int .i64 (r : Int))).setCell ⟨w.heap.size, 3, none⟩ (.int .i64 (y : Int))).setCell ⟨w.heap.size, 4, none⟩ (.int .i64 (1 + (z : Int)))) (some w.heap.size) :=
    gb_trans (gb_trans (gb_trans (gb_trans (gb_set _ ⟨w.heap.size, 0, none⟩ _) (gb_set _ ⟨w.heap.size, 1, none⟩ _)) (gb_set _ ⟨w.heap.size, 2, none⟩ _)) (gb_set _ ⟨w.heap.size, 3, none⟩ _)) (gb_set _ ⟨w.heap.size, 4, none⟩ _)
  refine bodyPost_ret (v := .agg #[.string s, .int .i64 (x : Int), .int .i64 (r : Int), .int .i64 (y : Int), .int .i64 (1 + (z : Int))]) (by simp [results, Try.results81, go_sem, e0, e1, e2, e3, e4, hne]) rfl ⟨⟨s, (x : Int), (r : Int), (y : Int), 1 + (z : Int)⟩, rfl, rfl, S6.other k2 (fun q hq => by injection hq; omega), gb_other G6 k2 (fun q hq => by injection hq; omega)⟩
end Go.Proofs.Ytngphnfbfednnaa
