/- The walks of l20Good, l20Draw: some tubes are drawn. -/
import Derived.Test.YtmjjlpkleapaeaaSrcF
import Derived.Test.YtmjjlpkleapaeaaTubeS
namespace Go.Proofs.Ytmjjlpkleapaeaa
open Go.RowKit

def vLenD : Value → Nat
  | .slice _ n _ => n
  | _ => 0
/-- A draw of a list: some data of that shape, at most m of them, in memory of the call's own. -/
def DrawPost {α : Type} (e size : Nat) (row : List α → List Value) (fit : List α → Prop) (m : Nat) (base g : Nat) (A : Option Addr) (n c : Nat) (w : World) (en : Ending) (w' : World) : Prop :=
  ∃ (L : List α) (v : Value), en = .returned v ∧ w'.ownsRow w.heap.size e size v L.length (row L) ∧ fit L ∧ L.length ≤ m ∧ Src w' base g A n c ∧ w.grownBy w' (some g)
theorem Src.lt {w : World} {base g n c : Nat} {A : Option Addr} (h : Src w base g A n c) : g < w.heap.size := by
  obtain ⟨a, s, hB, _⟩ := h.blk
  exact hB.lt

theorem Src.other {w w' : World} {base g n c : Nat} {A : Option Addr} (h : Src w base g A n c) {row : Option Nat} (hg : w.grownBy w' row) (hr : ∀ q, row = some q → g < q) : Src w' base g A n c := by
  obtain ⟨a, s, hB, ha, hs⟩ := h.blk
  refine ⟨⟨a, s, hB.grown hg (fun e => by have := hr g e.symm; omega), ha, hs⟩, h.lo, h.small, h.cap, fun hn => ?_, h.far⟩
  obtain ⟨gc, oc, e, hgc, hc⟩ := h.code hn
  refine ⟨gc, oc, e, Nat.lt_of_lt_of_le hgc hg.size, fun i hi => ?_⟩
  obtain ⟨b, hb, hcell⟩ := hc i hi
  exact ⟨b, hb, (World.cell?_of_block (hg.block gc hgc (fun e' => by have := hr gc e'.symm; have := h.far hn gc oc e; have := h.lo; omega))).trans hcell⟩
theorem gb_other {a b c : World} {row row2 : Option Nat} (h : a.grownBy b row) (k : b.grownBy c row2) (hr : ∀ q, row2 = some q → a.heap.size ≤ q) : a.grownBy c row :=
  ⟨k.os.trans h.os, k.tape.trans h.tape, k.output.trans h.output, Nat.le_trans h.size k.size, fun i hi hne => (k.block i (Nat.lt_of_lt_of_le hi h.size) (fun e => by have := hr i e.symm; omega)).trans (h.block i hi hne)⟩

set_option maxHeartbeats 4000000 in
theorem good_any (w : World) (base g : Nat) (A : Option Addr) (n c : Nat) (hs : Src w base g A n c) :
    Calls Try.prog 66 #[.pointer (some ⟨g, 0, none⟩)] w (DrawPost 54 2 tubeRow tubeFit 6 base g A n c w) := by
  have Hs := Lib.hid hs
  have hgl := hs.lt
  obtain ⟨i0, hi, hz0, hz1, hz2⟩ := info_parts Try.infoTube
  clear hs
  go_enter Try.func66, Try.ntmps66
  go_wp2_with fail
  refine (next_any _ base g A n c 4 (Hs.out.below ((Below.refl _ _).alloc (Nat.le_refl _) _))).mono ?_
  rintro e w2 ⟨x, rfl, hx, hs2, hg2⟩
  have hx4 : x < 4 := by omega
  have He2 := Lib.hid ((own_empty w 54 2 (Nat.le_refl _)).kept hg2 (.inr (by simp [Value.ownBlock]; omega)))
  have Hs2 := Lib.hid hs2
  have hgg : w.grownBy w2 (some g) := gb_trans ((below_grown ((Below.refl _ _).alloc (Nat.le_refl _) _) _)) hg2
  have Hg2 := Lib.hid hgg
  have x1 := IntWalk.i64_in (2 + (x : Int)) (by omega)
  clear hs2 hg2 hgg hx
  go_wp2
  go_loopw [3, 4, 5, 6] (fun o xv yv nv wr => ∃ (L : List Tube) (Ao : Option Addr) (co k : Nat) (xx yy : Int), o = .slice Ao L.length co ∧ xv = .int .i64 xx ∧ yv = .int .i64 yy ∧ nv = .int .i64 k ∧ L.length + k ≤ 5 ∧
      wr.ownsRow w.heap.size 54 2 (.slice Ao L.length co) L.length (tubeRow L) ∧ Src wr base g A n c ∧ w.grownBy wr (some g)) (fun _ _ _ nv _ => (intOf nv).toNat)
  case atStart => exact ⟨[], some ⟨w.heap.size, 0, none⟩, 0, 2 + x, 0, 0, rfl, rfl, rfl, by go_num, by simp; omega, He2.out, Hs2.out, Hg2.out⟩
  case round =>
    obtain ⟨L, Ao, co, k, xx, yy, rfl, rfl, rfl, rfl, hLk, ho, hsr, hg⟩ := hrel
    have Ho := Lib.hid ho
    have Hsr := Lib.hid hsr
    have Hg := Lib.hid hg
    have hszr := hg.size
    clear ho hsr hg
    by_cases hk : 0 < k
    · go_wp2_with fail
      refine (next_any wr base g A n c 1201 Hsr.out).mono ?_
      rintro e w4 ⟨a, rfl, ha, hs4, hg4⟩
      have ha4 : a < 1201 := by omega
      have xa := IntWalk.i64_in ((a : Int) - 600) (by omega)
      have Hs4 := Lib.hid hs4
      have Hg4 := Lib.hid hg4
      clear hs4 hg4 ha
      go_wp2_with fail
      refine (next_any w4 base g A n c 1201 Hs4.out).mono ?_
      rintro e w5 ⟨b, rfl, hb, hs5, hg5⟩
      have hb5 : b < 1201 := by omega
      have xb := IntWalk.i64_in ((b : Int) - 600) (by omega)
      have Hs5 := Lib.hid hs5
      have Hg5 := Lib.hid (gb_trans Hg4.out hg5)
      clear hs5 hg5 hb
      have hone : (Value.slice Ao L.length co).ownBlock ≠ some g := fun h => by have := (World.ownsRow.lt Ho.out g h).1; omega
      have Ho5 := Lib.hid (Ho.out.kept Hg5.out (.inr hone))
      have Hone := Lib.hid hone
      have hsz5 := Hg5.out.size
      clear hone
      have hb6 : Below w5.heap.size w5 ((w5.alloc (.cells #[.int .i64 ((a : Int) - 600), .int .i64 ((b : Int) - 600)] 54)).alloc (.cells #[.int .i64 ((a : Int) - 600), .int .i64 ((b : Int) - 600)] 54)) := ((Below.refl _ _).alloc (Nat.le_refl _) _).alloc (by simp) _
      have KT := Lib.hid ((Blk.new w5 54 #[.int .i64 ((a : Int) - 600), .int .i64 ((b : Int) - 600)]).alloc (.cells #[.int .i64 ((a : Int) - 600), .int .i64 ((b : Int) - 600)] 54))
      have KS := Lib.hid (show ((w5.alloc (.cells #[.int .i64 ((a : Int) - 600), .int .i64 ((b : Int) - 600)] 54)).alloc (.cells #[.int .i64 ((a : Int) - 600), .int .i64 ((b : Int) - 600)] 54)).heap[w5.heap.size + 1]? = some (.cells #[.int .i64 ((a : Int) - 600), .int .i64 ((b : Int) - 600)] 54 (0, 0)) by
        have := heap_alloc_new (w5.alloc (.cells #[.int .i64 ((a : Int) - 600), .int .i64 ((b : Int) - 600)] 54)) (.cells #[.int .i64 ((a : Int) - 600), .int .i64 ((b : Int) - 600)] 54)
        simpa using this)
      have Hb6 := Lib.hid hb6
      clear hb6
      go_wp2_with (at_builtin; refine wpList_append_sl _ rfl (.tmp 23) (.tmp 25) _ rfl w.heap.size 54 i0 _ 2 16 Try.underlying26 hi hz0 hz1 hz2 rfl (by omega) _ L.length (tubeRow L) rfl ((Ho5.out.alloc _).alloc _) (some ⟨w5.heap.size + 1, 0, none⟩) 1 1 (tubeCells ⟨(a : Int) - 600, (b : Int) - 600⟩) rfl (Rd.of_block (cs := #[.int .i64 ((a : Int) - 600), .int .i64 ((b : Int) - 600)]) KS.out rfl) (tubeCells_one _) (by unfold maxLen; omega) (by omega) (by simp; omega) ?_; intro A9 c9 w9 ho9 hg9 hor9; have hrow : (∀ q, (Value.slice Ao L.length co).ownBlock = some q → w.heap.size ≤ q ∧ q < w5.heap.size) := (fun q hq => World.ownsRow.lt Ho5.out q hq); have KT9 := KT.out.grown hg9 (fun e => (by have := (hrow _ e.symm).2; omega)); have k0 : w9.cell? ⟨w5.heap.size, 0, none⟩ = some (.int .i64 ((a : Int) - 600)) := KT9.cell 0; have k1 : w9.cell? ⟨w5.heap.size, 1, none⟩ = some (.int .i64 ((b : Int) - 600)) := KT9.cell 1; have Hs9 := Lib.hid ((Hs5.out.below Hb6.out).other hg9 (fun q hq => (by have := (hrow q hq).1; omega))); have Hg9 := Lib.hid (gb_other (gb_below (gb_trans Hg.out Hg5.out) Hb6.out) hg9 (fun q hq => (hrow q hq).1)); have Ho9 := Lib.hid ho9; clear ho9 hg9 hor9 KT9 hrow)
      go_roundw
      case rel =>
        refine ⟨L ++ [⟨(a : Int) - 600, (b : Int) - 600⟩], A9, c9, k - 1, _, _, ?_, rfl, rfl, ?_, by simp; omega, ?_, Hs9.out, Hg9.out⟩
        · rw [List.length_append]; rfl
        · go_num
        · rw [List.length_append, tubeRow_append]; exact Ho9.out
      case measure => simp [intOf]; omega
    · have hk0 : k = 0 := by omega
      go_wp2_with fail
      refine (next_any wr base g A n c 5 Hsr.out).mono ?_
      rintro e w4 ⟨z, rfl, hz, hs4, hg4⟩
      have Hs4 := Lib.hid hs4
      have Hg4 := Lib.hid (gb_trans Hg.out hg4)
      have hone : (Value.slice Ao L.length co).ownBlock ≠ some g := fun h => by have := (World.ownsRow.lt Ho.out g h).1; omega
      have Ho4 := Lib.hid (Ho.out.kept hg4 (.inr hone))
      have hsz4 := Hg4.out.size
      clear hs4 hg4 hone hz
      by_cases hzp : 0 < z
      · go_wp2_with (at_builtin; refine wpList_append_sl _ rfl (.tmp 38) (.tmp 44) _ rfl w.heap.size 54 i0 _ 2 16 Try.underlying26 hi hz0 hz1 hz2 rfl (by omega) _ L.length (tubeRow L) rfl (Ho4.out.alloc _) (some ⟨w4.heap.size, 0, none⟩) 1 1 (tubeCells ⟨wrap64 (-xx), wrap64 (-yy)⟩) rfl (Rd.of_block (cs := #[.int .i64 (wrap64 (-xx)), .int .i64 (wrap64 (-yy))]) (heap_alloc_new _ _) rfl) (tubeCells_one _) (by unfold maxLen; omega) (by omega) (by simp; omega) ?_; intro A9 c9 w9 ho9 hg9 hor9)
        have hrow : (∀ q, (Value.slice Ao L.length co).ownBlock = some q → w.heap.size ≤ q ∧ q < w4.heap.size) := (fun q hq => World.ownsRow.lt Ho4.out q hq)
        have hbA : Below w4.heap.size w4 (w4.alloc (.cells #[.int .i64 (wrap64 (-xx)), .int .i64 (wrap64 (-yy))] 54)) := (Below.refl _ _).alloc (Nat.le_refl _) _
        have Hs9 := Lib.hid ((Hs4.out.below hbA).other hg9 (fun q hq => by have := (hrow q hq).1; omega))
        have Hg9 := Lib.hid (gb_other (gb_below Hg4.out hbA) hg9 (fun q hq => (hrow q hq).1))
        have Ho9 := Lib.hid ho9
        clear ho9 hg9 hor9 hrow hbA
        go_ret
        exact ⟨L ++ [⟨wrap64 (-xx), wrap64 (-yy)⟩], .slice A9 (L.length + 1) c9, rfl, by rw [List.length_append, tubeRow_append]; exact Ho9.out, fun _ _ => trivial, by simp; omega, Hs9.out, Hg9.out⟩
      · go_wp2
        go_ret
        exact ⟨L, _, rfl, Ho4.out, fun _ _ => trivial, by omega, Hs4.out, Hg4.out⟩

end Go.Proofs.Ytmjjlpkleapaeaa
