/- The walks of the laws' own likeInts, likeTubes, big; of DrawTurnTubes. -/
import Derived.Test.YtmjjlpkleapaeaaDrawU
namespace Go.Proofs.Ytmjjlpkleapaeaa
open Go.RowKit

set_option maxHeartbeats 800000 in
theorem likeInts_same (l : List Int) (v v' : Value) (w : World) (hv : Sl w 1 v l.length (intsRow l)) (hv' : Sl w 1 v' l.length (intsRow l)) (hn : l.length ≤ 4194304) :
    Calls Try.prog 38 #[v, v'] w fun e w' => e = .returned (.bool true) ∧ Below w.heap.size w w' := by
  obtain ⟨A, c, rfl, hl, hc, hr⟩ := hv
  obtain ⟨A', c', rfl, hl', hc', hr'⟩ := hv'
  have Hr := Lib.hid hr
  have Hr' := Lib.hid hr'
  clear hr hr' hl hl' hc hc'
  go_enter Try.func38, Try.ntmps38
  go_wp2
  go_loopw [5] (fun i wr => ∃ k : Nat, k ≤ l.length ∧ i = .int .i64 k ∧ Below w.heap.size w wr) (fun i _ => l.length - (intOf i).toNat)
  case atStart => exact ⟨0, Nat.zero_le _, rfl, Below.refl _ _⟩
  case round =>
    obtain ⟨k, hk, rfl, hb⟩ := hrel
    by_cases hlt : k < l.length
    · obtain ⟨g, o, rfl, hg, c0⟩ := (Hr.out.below hb (Nat.le_refl _)).ints hlt
      obtain ⟨g', o', rfl, hg', c0'⟩ := (Hr'.out.below hb (Nat.le_refl _)).ints hlt
      have i0 : (0 : Int) ≤ (k : Int) := Int.natCast_nonneg _
      have i1 : (k : Int) < (l.length : Int) := by omega
      go_wp2
      go_quiet (fail)
      go_wp2
      go_roundw
      case rel => exact ⟨k + 1, by omega, by go_num, below_drewN hb _⟩
      case measure => simp [intOf]; omega
    · go_wp2
      go_ret
      exact ⟨rfl, hb⟩

set_option maxHeartbeats 800000 in
theorem likeTubes_same (L : List Tube) (v v' : Value) (w : World) (hv : Sl w 2 v L.length (tubeRow L)) (hv' : Sl w 2 v' L.length (tubeRow L)) (hn : L.length ≤ 4194304) :
    Calls Try.prog 37 #[v, v'] w fun e w' => e = .returned (.bool true) ∧ Below w.heap.size w w' := by
  obtain ⟨A, c, rfl, hl, hc, hr⟩ := hv
  obtain ⟨A', c', rfl, hl', hc', hr'⟩ := hv'
  have Hr := Lib.hid hr
  have Hr' := Lib.hid hr'
  clear hr hr' hl hl' hc hc'
  go_enter Try.func37, Try.ntmps37
  go_wp2
  go_loopw [5] (fun i wr => ∃ k : Nat, k ≤ L.length ∧ i = .int .i64 k ∧ Below w.heap.size w wr) (fun i _ => L.length - (intOf i).toNat)
  case atStart => exact ⟨0, Nat.zero_le _, rfl, Below.refl _ _⟩
  case round =>
    obtain ⟨k, hk, rfl, hb⟩ := hrel
    by_cases hlt : k < L.length
    · obtain ⟨g, o, rfl, hg, c0, c1⟩ := (Hr.out.below hb (Nat.le_refl _)).tube hlt
      obtain ⟨g', o', rfl, hg', c0', c1'⟩ := (Hr'.out.below hb (Nat.le_refl _)).tube hlt
      have i0 : (0 : Int) ≤ (k : Int) := Int.natCast_nonneg _
      have i1 : (k : Int) < (L.length : Int) := by omega
      go_wp2
      go_quiet (fail)
      go_wp2
      go_roundw
      case rel => exact ⟨k + 1, by omega, by go_num, below_drewN hb _⟩
      case measure => simp [intOf]; omega
    · go_wp2
      go_ret
      exact ⟨rfl, hb⟩

set_option maxHeartbeats 400000 in
theorem big_any (w : World) (A : Option Addr) (n c : Nat) (hn : n ≤ c) (hc : c ≤ maxLen) : Calls Try.prog 31 #[.slice A n c] w fun e w' => e = .returned (.bool (decide (4096 < (n : Int)))) ∧ w = w' := by
  unfold maxLen at hc
  go_enter Try.func31, Try.ntmps31
  go_wp2
  go_ret
  exact ⟨rfl, rfl⟩

set_option maxHeartbeats 4000000 in
theorem drawTurn_any (w : World) (A : Option Addr) (n c : Nat) (hcode : Code w A n) (hn : n ≤ 4096) (hc : n ≤ c ∧ c ≤ maxLen) :
    Calls Try.prog 32 #[.slice A n c] w fun e w' => ∃ (L : List Tube) (v : Value) (q : Int), e = .returned (.tuple #[v, .int .i64 q]) ∧ w'.ownsRow w.heap.size 54 2 v L.length (tubeRow L) ∧ L.length ≤ 9 ∧ Below w.heap.size w w' := by
  go_enter Try.func32, Try.ntmps32
  go_wp2_with fail
  refine (from_any w A n c hcode hn hc).mono ?_
  rintro e w2 ⟨rfl, hs2, hb2⟩
  have Hs2 := Lib.hid hs2
  have hsz2 := hb2.size
  have hgl2 := hs2.lt
  clear hs2
  go_wp2_with fail
  refine (draw_any w2 w.heap.size w.heap.size A n c Hs2.out).mono ?_
  rintro e w3 ⟨L, v, rfl, ho3, _, hL, hs3, hg3⟩
  obtain ⟨Ao, co, rfl, _, _⟩ := own_slice ho3
  have Hs3 := Lib.hid hs3
  have hone : (Value.slice Ao L.length co).ownBlock ≠ some w.heap.size := fun h => by have := (World.ownsRow.lt ho3 _ h).1; omega
  have Hone := Lib.hid hone
  have Ho3 := Lib.hid ho3
  have hgl3 : w.heap.size < w3.heap.size := hs3.lt
  have b3 : Below w.heap.size w w3 := hb2.trans ⟨hg3.os, hg3.tape, hg3.output, hg3.size, fun k hk => hg3.block k (by omega) (fun e => by injection e; omega)⟩
  clear hs3 hg3 ho3 hone
  go_wp2_with fail
  refine (pick_any _ w.heap.size w.heap.size A n c [0, 1, 2, 3, 4, 1, -1] _ (Hs3.out.below ((Below.refl _ _).alloc (Nat.le_refl _) _)) (by exact sl_laid w3 [0, 1, 2, 3, 4, 1, -1] (by simp [maxLen])) (by simp) (by simp) (fun h => by have : w3.heap.size = w.heap.size := (by simpa [Value.ownBlock] using h); omega)).mono ?_
  rintro e w4 ⟨q, _, rfl, hs4, hg4⟩
  have Ho4 := Lib.hid (own_base ((Ho3.out.alloc _).kept hg4 (.inr Hone.out)) hsz2)
  have b4 : Below w.heap.size w w4 := (b3.alloc (by omega) _).trans ⟨hg4.os, hg4.tape, hg4.output, hg4.size, fun k hk => hg4.block k (by simp; omega) (fun e => by injection e; omega)⟩
  clear hs4 hg4
  go_wp2
  go_ret2
  exact ⟨L, _, q, rfl, Ho4.out, hL, b4⟩

end Go.Proofs.Ytmjjlpkleapaeaa
