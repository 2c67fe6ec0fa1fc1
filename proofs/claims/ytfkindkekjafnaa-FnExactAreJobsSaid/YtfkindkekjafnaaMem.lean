/- Words for memory: a slice that reads as a list of cells (nil let in). No program here. -/
import Derived.Test.YtfkindkekjafnaaWord
import Derived.WalkKit
import Derived.WalkSpells
import Derived.Laws.OwnMore
import Derived.Deep.AppendLies
import Derived.Deep.Draws
import Derived.Lib.Hide
namespace Go.Proofs.Ytfkindkekjafnaa
open Go.RowKit

/-- The slice value '.slice A n c' reads as the cells xs ('size' cells an element) and lies below block B. -/
def Rd (w : World) (B size : Nat) (A : Option Addr) (n : Nat) (xs : List Value) : Prop :=
  xs.length = n * size ∧ (0 < n → ∃ g o, A = some ⟨g, o, none⟩ ∧ g < B ∧ ∀ j u, xs[j]? = some u → w.cell? ⟨g, o + j, none⟩ = some u)

section
variable {w w' : World} {B B' size n : Nat} {A : Option Addr} {xs : List Value}
theorem Rd.none_ : Rd w B size A 0 [] := ⟨by simp, fun h => absurd h (by omega)⟩
theorem Rd.len (h : Rd w B size A n xs) : xs.length = n * size := h.1
theorem Rd.keep (h : Rd w B size A n xs) (hk : ∀ p : Addr, p.block < B → w'.cell? p = w.cell? p) : Rd w' B size A n xs :=
  ⟨h.1, fun hn => by
    obtain ⟨g, o, e, hb, hc⟩ := h.2 hn
    exact ⟨g, o, e, hb, fun j u hu => (hk _ hb).trans (hc j u hu)⟩⟩
theorem Rd.more (h : Rd w B size A n xs) (hB : B ≤ B') : Rd w B' size A n xs :=
  ⟨h.1, fun hn => by
    obtain ⟨g, o, e, hb, hc⟩ := h.2 hn
    exact ⟨g, o, e, by omega, hc⟩⟩
theorem Rd.below (h : Rd w B size A n xs) {C : Nat} (hb : Below C w w') (hC : B ≤ C) : Rd w' B size A n xs := h.keep fun _ hp => hb.cell (by omega)
theorem Rd.grown (h : Rd w B size A n xs) {row : Option Nat} (hg : w.grownBy w' row) (hB : B ≤ w.heap.size) (hr : ∀ g, row = some g → B ≤ g) : Rd w' B size A n xs :=
  h.keep fun p hp => World.cell?_of_block (hg.block p.block (by omega) (fun e => by have := hr _ e.symm; omega))
theorem Rd.alloc (h : Rd w B size A n xs) (hB : B ≤ w.heap.size) (o : Obj) : Rd (w.alloc o) B size A n xs := h.below (C := B) ((Below.refl _ _).alloc hB o) (Nat.le_refl _)
theorem Rd.of_own {base : Nat} {e : TypeId} {c : Nat} (h : w.ownsRow base e size (.slice A n c) n xs) : Rd w w.heap.size size A n xs := by
  refine ⟨h.1, fun hn => ?_⟩
  obtain ⟨g, cap, hv, _, hlt⟩ := h.form hn
  have hA : A = some ⟨g, 0, none⟩ := by injection hv
  subst hA
  refine ⟨g, 0, rfl, hlt, fun j u hu => ?_⟩
  have hj : j < xs.length := (List.getElem?_eq_some_iff.1 hu).1
  rw [Nat.zero_add]
  have hc : c = cap := by injection hv
  subst hc
  rw [h.cellAt j (by rw [← h.1]; exact hj)]
  exact hu
end


/-! ### Owned rows: kept over a callee that leaves old memory alone; a cell of one -/
theorem below_grown {w w' : World} (h : Below w.heap.size w w') (row : Option Nat) : w.grownBy w' row := ⟨h.os, h.tape, h.output, h.size, fun i hi _ => h.block i hi⟩
section
variable {w w' : World} {base size n cap g : Nat} {e : TypeId} {xs : List Value} {v : Value}
theorem own_below (h : w.ownsRow base e size v n xs) (hb : Below w.heap.size w w') : w'.ownsRow base e size v n xs := h.kept (below_grown hb none) (by cases hv : v.ownBlock <;> simp)
theorem own_far (h : w.ownsRow base e size v n xs) {p : Addr} (hp : v.ownBlock ≠ some p.block) (u : Value) : (w.setCell p u).ownsRow base e size v n xs := by
  refine h.kept (row := some p.block) ⟨rfl, rfl, rfl, by simp [World.setCell], fun k _ hk => Below.heap_setCell _ _ _ _ (fun e => hk (by rw [e]))⟩ (.inr hp)
theorem own_cell (h : w.ownsRow base e size (.slice (some ⟨g, 0, none⟩) n cap) n xs) {j : Nat} (hj : j < n * size) : ∃ x, w.cell? ⟨g, j, none⟩ = some x := by
  have hl : j < xs.length := by rw [h.1]; exact hj
  exact ⟨xs[j], by rw [h.cellAt j hj]; exact List.getElem?_eq_getElem hl⟩
theorem own_form (h : w.ownsRow base e size v n xs) (hn : 0 < n) : ∃ g c, v = .slice (some ⟨g, 0, none⟩) n c ∧ base ≤ g ∧ g < w.heap.size := by
  obtain ⟨g, c, hv, h1, h2⟩ := h.form hn
  exact ⟨g, c, hv, h1, h2⟩
theorem own_slice (h : w.ownsRow base e size v n xs) : ∃ A c, v = .slice A n c ∧ n ≤ c ∧ c ≤ maxLen := by
  rcases h.2 with ⟨rfl, rfl⟩ | ⟨g, c, cur, rfl, _, _, h1, h2, _⟩
  · exact ⟨none, 0, rfl, Nat.le_refl _, by simp [maxLen]⟩
  · exact ⟨_, c, rfl, h1, h2⟩
theorem own_caps {A : Option Addr} {m c : Nat} (h : w.ownsRow base e size (.slice A m c) n xs) : m = n ∧ n ≤ c ∧ c ≤ maxLen := by
  obtain ⟨A', c', hv, h1, h2⟩ := own_slice h
  injection hv with _ h3 h4
  subst h3; subst h4
  exact ⟨rfl, h1, h2⟩
theorem own_base {base' : Nat} (h : w.ownsRow base e size v n xs) (hb : base' ≤ base) : w.ownsRow base' e size v n xs := by
  refine ⟨h.1, ?_⟩
  rcases h.2 with h' | ⟨g, c, cur, hv, hg, r⟩
  · exact .inl h'
  · exact .inr ⟨g, c, cur, hv, by omega, r⟩
end

theorem gb_trans {a b c : World} {row : Option Nat} (h : a.grownBy b row) (k : b.grownBy c row) : a.grownBy c row :=
  ⟨k.os.trans h.os, k.tape.trans h.tape, k.output.trans h.output, Nat.le_trans h.size k.size, fun i hi hne => (k.block i (Nat.lt_of_lt_of_le hi h.size) hne).trans (h.block i hi hne)⟩
theorem gb_below {a b c : World} {row : Option Nat} (h : a.grownBy b row) (hb : Below b.heap.size b c) : a.grownBy c row := gb_trans h (below_grown hb row)
theorem gb_refl (w : World) (row : Option Nat) : w.grownBy w row := ⟨rfl, rfl, rfl, Nat.le_refl _, fun _ _ _ => rfl⟩
theorem gb_drew {a b : World} {row : Option Nat} (h : a.grownBy b row) : a.grownBy b.drew row := ⟨h.os, h.tape, h.output, h.size, h.block⟩

/-- A call that writes into the row of the slice v alone: what it returns, what the row holds behind it. -/
def MarkPost (base e size : Nat) (v : Value) (n : Nat) (xs : List Value) (r : Int) (w : World) (en : Ending) (w' : World) : Prop :=
  en = .returned (.int .i64 r) ∧ w'.ownsRow base e size v n xs ∧ w.grownBy w' v.ownBlock

/-! ### A row that is filled from its head -/
/-- The first m cells are those of ys. -/
def Pre (xs ys : List Value) (m : Nat) : Prop := ∀ j, j < m → xs[j]? = ys[j]?
theorem Pre.zero (xs ys : List Value) : Pre xs ys 0 := fun j h => absurd h (by omega)
theorem Pre.all {xs ys : List Value} {m : Nat} (h : Pre xs ys m) (h1 : xs.length = m) (h2 : ys.length = m) : xs = ys := by
  refine List.ext_getElem? fun j => ?_
  by_cases hj : j < m
  · exact h j hj
  · rw [List.getElem?_eq_none (by omega), List.getElem?_eq_none (by omega)]
theorem Pre.set {xs ys : List Value} {m : Nat} {u : Value} (h : Pre xs ys m) (hm : m < xs.length) (hu : ys[m]? = some u) : Pre (xs.set m u) ys (m + 1) := by
  intro j hj
  by_cases e : j = m
  · subst e; rw [hu, List.getElem?_set_self hm]
  · rw [List.getElem?_set_ne (by omega)]; exact h j (by omega)
theorem Pre.set3 {xs ys : List Value} {k : Nat} {a b c : Value} (h : Pre xs ys (k * 3)) (hm : k * 3 + 2 < xs.length) (ha : ys[k * 3]? = some a) (hb : ys[k * 3 + 1]? = some b) (hc : ys[k * 3 + 2]? = some c) :
    Pre (((xs.set (k * 3) a).set (k * 3 + 1) b).set (k * 3 + 2) c) ys ((k + 1) * 3) := by
  rw [show (k + 1) * 3 = k * 3 + 1 + 1 + 1 by omega]
  exact ((h.set (by omega) ha).set (by simp; omega) hb).set (by simp; omega) hc

end Go.Proofs.Ytfkindkekjafnaa
