/- What a draw leaves; rows laid whole. No walks. -/
import Derived.Test.YtecfkomijaakhaaSrc
namespace Go.Proofs.Ytecfkomijaakhaa
open Go.RowKit

def vLenD : Value → Nat
  | .slice _ n _ => n
  | _ => 0
/-- A draw of a list: some data of that shape, at most m of them, in memory of the call's own. -/
def DrawPost {α : Type} (e size : Nat) (row : List α → List Value) (fit : List α → Prop) (m : Nat) (base g : Nat) (A : Option Addr) (n c : Nat) (w : World) (en : Ending) (w' : World) : Prop :=
  ∃ (L : List α) (v : Value), en = .returned v ∧ w'.ownsRow w.heap.size e size v L.length (row L) ∧ fit L ∧ L.length ≤ m ∧ Src w' base g A n c ∧ w.grownBy w' (some g)
theorem Src.lt {w : World} {base g n c : Nat} {A : Option Addr} (h : Src w base g A n c) : g < w.heap.size := by
  obtain ⟨a, s, hB, _⟩ := h.blk
  exact hB.lt

theorem Src.other {w w' : World} {base g n c : Nat} {A : Option Addr} (h : Src w base g A n c) {row : Option Nat} (hg : w.grownBy w' row) (hr : ∀ q, row = some q → g < q) : Src w' base g A n c := by
  obtain ⟨a, s, hB, ha, hs⟩ := h.blk
  refine ⟨⟨a, s, hB.grown hg (fun e => by have := hr g e.symm; omega), ha, hs⟩, h.lo, h.small, h.cap, fun hn => ?_, h.far⟩
  obtain ⟨gc, oc, e, hgc, hc⟩ := h.code hn
  refine ⟨gc, oc, e, Nat.lt_of_lt_of_le hgc hg.size, fun i hi => ?_⟩
  obtain ⟨b, hb, hcell⟩ := hc i hi
  exact ⟨b, hb, (World.cell?_of_block (hg.block gc hgc (fun e' => by have := hr gc e'.symm; have := h.far hn gc oc e; have := h.lo; omega))).trans hcell⟩
theorem gb_other {a b c : World} {row row2 : Option Nat} (h : a.grownBy b row) (k : b.grownBy c row2) (hr : ∀ q, row2 = some q → a.heap.size ≤ q) : a.grownBy c row :=
  ⟨k.os.trans h.os, k.tape.trans h.tape, k.output.trans h.output, Nat.le_trans h.size k.size, fun i hi hne => (k.block i (Nat.lt_of_lt_of_le hi h.size) (fun e => by have := hr i e.symm; omega)).trans (h.block i hi hne)⟩

/-- A new row that is laid whole. -/
theorem own_laid (w : World) (cs : Array Value) (e size n : Nat) {base : Nat} (hb : base ≤ w.heap.size) (hn : cs.size = n * size) (hm : n ≤ maxLen) : (w.alloc (.cells cs e)).ownsRow base e size (.slice (some ⟨w.heap.size, 0, none⟩) n n) n cs.toList :=
  ⟨by rw [Array.length_toList]; exact hn, .inr ⟨w.heap.size, n, cs, rfl, hb, heap_alloc_new w _, Nat.le_refl _, hm, hn, by rw [← hn]; exact List.take_of_length_le (by simp)⟩⟩
theorem sl_laid (w : World) (l : List Int) (hm : l.length ≤ maxLen) : Sl (w.alloc (.cells (intsRow l).toArray 2)) 1 (.slice (some ⟨w.heap.size, 0, none⟩) l.length l.length) l.length (intsRow l) := by
  have := own_laid w (intsRow l).toArray 2 1 l.length (Nat.le_refl _) (by simp [intsRow]) hm
  exact Sl.of_own this

/-- A call that writes into one block alone, which is not below B, leaves all below B alone. -/
theorem below_gb {a b : World} {g B : Nat} (h : a.grownBy b (some g)) (hB : B ≤ g) (hs : B ≤ a.heap.size) : Below B a b :=
  ⟨h.os, h.tape, h.output, h.size, fun k hk => h.block k (by omega) (fun e => by injection e; omega)⟩
theorem draw_own {w : World} {base n size : Nat} {e : TypeId} {xs : List Value} {v : Value} (h : w.ownsRow base e size v n xs) (k : Nat) : (w.drewN k).ownsRow base e size v n xs := h
theorem draw_src {w : World} {base g n c : Nat} {A : Option Addr} (h : Src w base g A n c) (k : Nat) : Src (w.drewN k) base g A n c := ⟨h.blk, h.lo, h.small, h.cap, h.code, h.far⟩
end Go.Proofs.Ytecfkomijaakhaa
