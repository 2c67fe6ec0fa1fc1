/- Words for memory: a slice that reads as a list of cells (nil let in). No program here. -/
import Derived.Test.YtecfkomijaakhaaBase
import Derived.WalkKit
import Derived.WalkSpells
import Derived.Laws.OwnMore
import Derived.Deep.AppendLies
import Derived.Deep.Draws
import Derived.Lib.Hide
namespace Go.Proofs.Ytecfkomijaakhaa
open Go.RowKit

/-- The slice value '.slice A n c' reads as the cells xs ('size' cells an element) and lies below block B. -/
def Rd (w : World) (B size : Nat) (A : Option Addr) (n : Nat) (xs : List Value) : Prop :=
  xs.length = n * size ∧ (0 < n → ∃ g o, A = some ⟨g, o, none⟩ ∧ g < B ∧ ∀ j u, xs[j]? = some u → w.cell? ⟨g, o + j, none⟩ = some u)

section
variable {w w' : World} {B B' size n : Nat} {A : Option Addr} {xs : List Value}
theorem Rd.none_ : Rd w B size A 0 [] := ⟨by simp, fun h => absurd h (by omega)⟩
theorem Rd.len (h : Rd w B size A n xs) : xs.length = n * size := h.1
theorem Rd.keep (h : Rd w B size A n xs) (hk : ∀ p : Addr, p.block < B → w'.cell? p = w.cell? p) : Rd w' B size A n xs :=
  ⟨h.1, fun hn => by
    obtain ⟨g, o, e, hb, hc⟩ := h.2 hn
    exact ⟨g, o, e, hb, fun j u hu => (hk _ hb).trans (hc j u hu)⟩⟩
theorem Rd.more (h : Rd w B size A n xs) (hB : B ≤ B') : Rd w B' size A n xs :=
  ⟨h.1, fun hn => by
    obtain ⟨g, o, e, hb, hc⟩ := h.2 hn
    exact ⟨g, o, e, by omega, hc⟩⟩
theorem Rd.below (h : Rd w B size A n xs) {C : Nat} (hb : Below C w w') (hC : B ≤ C) : Rd w' B size A n xs := h.keep fun _ hp => hb.cell (by omega)
theorem Rd.grown (h : Rd w B size A n xs) {row : Option Nat} (hg : w.grownBy w' row) (hB : B ≤ w.heap.size) (hr : ∀ g, row = some g → B ≤ g) : Rd w' B size A n xs :=
  h.keep fun p hp => World.cell?_of_block (hg.block p.block (by omega) (fun e => by have := hr _ e.symm; omega))
theorem Rd.alloc (h : Rd w B size A n xs) (hB : B ≤ w.heap.size) (o : Obj) : Rd (w.alloc o) B size A n xs := h.below (C := B) ((Below.refl _ _).alloc hB o) (Nat.le_refl _)
/-- A slice's beginning, its rest. -/
theorem Rd.take (h : Rd w B size A n xs) {k : Nat} (hk : k ≤ n) : Rd w B size A k (xs.take (k * size)) := by
  refine ⟨by rw [List.length_take, h.1]; exact Nat.min_eq_left (Nat.mul_le_mul_right _ hk), fun hn => ?_⟩
  obtain ⟨g, o, e, hb, hc⟩ := h.2 (by omega)
  refine ⟨g, o, e, hb, fun j u hu => hc j u ?_⟩
  rw [List.getElem?_take] at hu
  split at hu
  · exact hu
  · cases hu
theorem Rd.drop {g o : Nat} (h : Rd w B size (some ⟨g, o, none⟩) n xs) {k : Nat} (hk : k ≤ n) : Rd w B size (some ⟨g, o + k * size, none⟩) (n - k) (xs.drop (k * size)) := by
  refine ⟨by rw [List.length_drop, h.1, Nat.sub_mul], fun hn => ?_⟩
  obtain ⟨g', o', e, hb, hc⟩ := h.2 (by omega)
  injection e with e
  injection e with e1 e2
  subst e1; subst e2
  refine ⟨g, _, rfl, hb, fun j u hu => ?_⟩
  rw [List.getElem?_drop] at hu
  rw [Nat.add_assoc]; exact hc _ u hu
theorem Rd.drewN (h : Rd w w.heap.size size A n xs) (k : Nat) : Rd (w.drewN k) (w.drewN k).heap.size size A n xs := h
/-- Rd at the world's own size: behind a draw, a new block, a call. -/
theorem Rd.drew' (h : Rd w w.heap.size size A n xs) : Rd w.drew w.drew.heap.size size A n xs := h
theorem Rd.alloc' (h : Rd w w.heap.size size A n xs) (o : Obj) : Rd (w.alloc o) (w.alloc o).heap.size size A n xs := (h.alloc (Nat.le_refl _) o).more (by simp)
theorem Rd.below' (h : Rd w w.heap.size size A n xs) (hb : Below w.heap.size w w') : Rd w' w'.heap.size size A n xs := (h.below hb (Nat.le_refl _)).more hb.size
theorem Rd.of_own {base : Nat} {e : TypeId} {c : Nat} (h : w.ownsRow base e size (.slice A n c) n xs) : Rd w w.heap.size size A n xs := by
  refine ⟨h.1, fun hn => ?_⟩
  obtain ⟨g, cap, hv, _, hlt⟩ := h.form hn
  have hA : A = some ⟨g, 0, none⟩ := by injection hv
  subst hA
  refine ⟨g, 0, rfl, hlt, fun j u hu => ?_⟩
  have hj : j < xs.length := (List.getElem?_eq_some_iff.1 hu).1
  rw [Nat.zero_add]
  have hc : c = cap := by injection hv
  subst hc
  rw [h.cellAt j (by rw [← h.1]; exact hj)]
  exact hu
end


/-- A callee that leaves the world as it is, inside a region that reads in an open order. -/
theorem quiet_l {P : Program} {f : FuncId} {args : Array Value} {w : World} {n : Nat} {v : Value} (h : Calls P f args (w.drewN n) fun e w' => e = .returned v ∧ w.drewN n = w') :
    Calls P f args (w.drewN n) fun e w'' => e = .returned v ∧ ∃ m, w'' = w.drewN m := h.mono fun _ _ ⟨he, hm⟩ => ⟨he, n, hm.symm⟩

/-! ### Owned rows: kept over a callee that leaves old memory alone; a cell of one -/
theorem below_grown {w w' : World} (h : Below w.heap.size w w') (row : Option Nat) : w.grownBy w' row := ⟨h.os, h.tape, h.output, h.size, fun i hi _ => h.block i hi⟩
section
variable {w w' : World} {base size n cap g : Nat} {e : TypeId} {xs : List Value} {v : Value}
theorem own_below (h : w.ownsRow base e size v n xs) (hb : Below w.heap.size w w') : w'.ownsRow base e size v n xs := h.kept (below_grown hb none) (by cases hv : v.ownBlock <;> simp)
theorem own_far (h : w.ownsRow base e size v n xs) {p : Addr} (hp : v.ownBlock ≠ some p.block) (u : Value) : (w.setCell p u).ownsRow base e size v n xs := by
  refine h.kept (row := some p.block) ⟨rfl, rfl, rfl, by simp [World.setCell], fun k _ hk => Below.heap_setCell _ _ _ _ (fun e => hk (by rw [e]))⟩ (.inr hp)
theorem own_cell (h : w.ownsRow base e size (.slice (some ⟨g, 0, none⟩) n cap) n xs) {j : Nat} (hj : j < n * size) : ∃ x, w.cell? ⟨g, j, none⟩ = some x := by
  have hl : j < xs.length := by rw [h.1]; exact hj
  exact ⟨xs[j], by rw [h.cellAt j hj]; exact List.getElem?_eq_getElem hl⟩
theorem own_form (h : w.ownsRow base e size v n xs) (hn : 0 < n) : ∃ g c, v = .slice (some ⟨g, 0, none⟩) n c ∧ base ≤ g ∧ g < w.heap.size := by
  obtain ⟨g, c, hv, h1, h2⟩ := h.form hn
  exact ⟨g, c, hv, h1, h2⟩
theorem own_slice (h : w.ownsRow base e size v n xs) : ∃ A c, v = .slice A n c ∧ n ≤ c ∧ c ≤ maxLen := by
  rcases h.2 with ⟨rfl, rfl⟩ | ⟨g, c, cur, rfl, _, _, h1, h2, _⟩
  · exact ⟨none, 0, rfl, Nat.le_refl _, by simp [maxLen]⟩
  · exact ⟨_, c, rfl, h1, h2⟩
/-- A block below the base is none of an owned row's. -/
theorem own_apart (h : w.ownsRow base e size v n xs) {k : Nat} (hk : k < base) : some k ≠ v.ownBlock := fun he => by have := (World.ownsRow.lt h k he.symm).1; omega
theorem own_caps {A : Option Addr} {m c : Nat} (h : w.ownsRow base e size (.slice A m c) n xs) : m = n ∧ n ≤ c ∧ c ≤ maxLen := by
  obtain ⟨A', c', hv, h1, h2⟩ := own_slice h
  injection hv with _ h3 h4
  subst h3; subst h4
  exact ⟨rfl, h1, h2⟩
theorem own_base {base' : Nat} (h : w.ownsRow base e size v n xs) (hb : base' ≤ base) : w.ownsRow base' e size v n xs := by
  refine ⟨h.1, ?_⟩
  rcases h.2 with h' | ⟨g, c, cur, hv, hg, r⟩
  · exact .inl h'
  · exact .inr ⟨g, c, cur, hv, by omega, r⟩
end

theorem gb_trans {a b c : World} {row : Option Nat} (h : a.grownBy b row) (k : b.grownBy c row) : a.grownBy c row :=
  ⟨k.os.trans h.os, k.tape.trans h.tape, k.output.trans h.output, Nat.le_trans h.size k.size, fun i hi hne => (k.block i (Nat.lt_of_lt_of_le hi h.size) hne).trans (h.block i hi hne)⟩
theorem gb_below {a b c : World} {row : Option Nat} (h : a.grownBy b row) (hb : Below b.heap.size b c) : a.grownBy c row := gb_trans h (below_grown hb row)
theorem gb_refl (w : World) (row : Option Nat) : w.grownBy w row := ⟨rfl, rfl, rfl, Nat.le_refl _, fun _ _ _ => rfl⟩
theorem gb_drew {a b : World} {row : Option Nat} (h : a.grownBy b row) : a.grownBy b.drew row := ⟨h.os, h.tape, h.output, h.size, h.block⟩

/-- The value v is a slice of n elements that reads as the cells xs. -/
def Sl (w : World) (size : Nat) (v : Value) (n : Nat) (xs : List Value) : Prop := ∃ A c, v = .slice A n c ∧ n ≤ c ∧ c ≤ maxLen ∧ Rd w w.heap.size size A n xs
section
variable {w w' : World} {base size n : Nat} {e : TypeId} {xs : List Value} {v : Value}
theorem Sl.below (h : Sl w size v n xs) (hb : Below w.heap.size w w') : Sl w' size v n xs := by
  obtain ⟨A, c, rfl, h1, h2, h3⟩ := h
  exact ⟨A, c, rfl, h1, h2, (h3.below hb (Nat.le_refl _)).more hb.size⟩
theorem Sl.of_own (h : w.ownsRow base e size v n xs) : Sl w size v n xs := by
  obtain ⟨A, c, rfl, h1, h2⟩ := own_slice h
  exact ⟨A, c, rfl, h1, h2, Rd.of_own h⟩
theorem Sl.nil : Sl w size (.slice none 0 0) 0 [] := ⟨none, 0, rfl, Nat.le_refl _, by simp [maxLen], Rd.none_⟩
theorem Sl.len (h : Sl w size v n xs) : xs.length = n * size := by obtain ⟨A, c, rfl, h1, h2, h3⟩ := h; exact h3.1
/-- Sl over a call that writes one row alone, which is not this one. -/
theorem Sl.grown {row : Option Nat} (h : Sl w size v n xs) (hg : w.grownBy w' row) (hr : ∀ g, row = some g → v.ownBlock ≠ some g) : Sl w' size v n xs := by
  obtain ⟨A, c, rfl, h1, h2, h3, h4⟩ := h
  refine ⟨A, c, rfl, h1, h2, h3, fun hn => ?_⟩
  obtain ⟨g, o, rfl, hb, hc⟩ := h4 hn
  refine ⟨g, o, rfl, Nat.lt_of_lt_of_le hb hg.size, fun j u hu => ?_⟩
  rw [World.cell?_of_block (w := w) (hg.block g hb (fun e => hr g e.symm rfl))]
  exact hc j u hu
end

/-- A call that makes a slice and leaves all that was there alone. -/
def Gives (base e size : Nat) (n : Nat) (xs : List Value) (w : World) (en : Ending) (w' : World) : Prop :=
  ∃ v, en = .returned v ∧ w'.ownsRow base e size v n xs ∧ Below w.heap.size w w'
/-- What is left is below 0, or there are at most so many. -/
def SzPost (k : Nat) (w : World) (e : Ending) (w' : World) : Prop := ∃ r : Int, e = .returned (.int .i64 r) ∧ r ≤ 1048576 ∧ (0 ≤ r → k ≤ 1048576) ∧ Below w.heap.size w w'
/-- A call that writes into the row of the slice v alone: what it returns, what the row holds behind it. -/
def MarkPost (base e size : Nat) (v : Value) (n : Nat) (xs : List Value) (m : Nat) (w : World) (en : Ending) (w' : World) : Prop :=
  ∃ r : Nat, en = .returned (.int .i64 r) ∧ r = m ∧ w'.ownsRow base e size v n xs ∧ w.grownBy w' v.ownBlock
/-- A call that counts and leaves all alone. -/
def HeldPost (m : Nat) (w : World) (en : Ending) (w' : World) : Prop := ∃ r : Nat, en = .returned (.int .i64 r) ∧ r = m ∧ Below w.heap.size w w'

/-! ### What the program's functions leave: a slice of the call's own, numbers, a code -/
def RetB (b : Bool) (w : World) (en : Ending) (w' : World) : Prop := en = .returned (.bool b) ∧ Below w.heap.size w w'
def RetI (k : Int) (w : World) (en : Ending) (w' : World) : Prop := en = .returned (.int .i64 k) ∧ Below w.heap.size w w'
def RetBC (r : Bool × Int) (w : World) (en : Ending) (w' : World) : Prop := en = .returned (.tuple #[.bool r.1, .int .i64 r.2]) ∧ Below w.heap.size w w'
def RetIC (r : Int × Int) (w : World) (en : Ending) (w' : World) : Prop := en = .returned (.tuple #[.int .i64 r.1, .int .i64 r.2]) ∧ Below w.heap.size w w'
def RetSC {α : Type} (base e size : Nat) (row : List α → List Value) (r : List α × Int) (w : World) (en : Ending) (w' : World) : Prop :=
  ∃ v, en = .returned (.tuple #[v, .int .i64 r.2]) ∧ w'.ownsRow base e size v r.1.length (row r.1) ∧ Below w.heap.size w w'
def RetSIC {α : Type} (base e size : Nat) (row : List α → List Value) (r : List α × Int × Int) (w : World) (en : Ending) (w' : World) : Prop :=
  ∃ v, en = .returned (.tuple #[v, .int .i64 r.2.1, .int .i64 r.2.2]) ∧ w'.ownsRow base e size v r.1.length (row r.1) ∧ Below w.heap.size w w'
def RetSSC {α β : Type} (base e size : Nat) (row : List α → List Value) (e2 size2 : Nat) (row2 : List β → List Value) (r : List α × List β × Int) (w : World) (en : Ending) (w' : World) : Prop :=
  ∃ v u, en = .returned (.tuple #[v, u, .int .i64 r.2.2]) ∧ w'.ownsRow base e size v r.1.length (row r.1) ∧ w'.ownsRow base e2 size2 u r.2.1.length (row2 r.2.1) ∧ (v.ownBlock = none ∨ v.ownBlock ≠ u.ownBlock) ∧ Below w.heap.size w w'
theorem RetSC.err {α : Type} {base e size : Nat} {row : List α → List Value} {r : List α × Int} {w w' : World} {c : Int} (h : r = ([], c)) (hrow : row [] = []) (hb : Below w.heap.size w w') :
    RetSC base e size row r w (.returned (.tuple #[.slice none 0 0, .int .i64 c])) w' := by
  subst h; exact ⟨_, rfl, by rw [hrow]; exact World.ownsRow_nil _ _ _ _, hb⟩
theorem RetSC.ok {α : Type} {base base' e size n : Nat} {row : List α → List Value} {r : List α × Int} {w w' : World} {c : Int} {l : List α} {v : Value} {xs : List Value} (h : r = (l, c)) (ho : w'.ownsRow base' e size v n xs) (hn : n = l.length) (hx : xs = row l) (hB : base ≤ base') (hb : Below w.heap.size w w') :
    RetSC base e size row r w (.returned (.tuple #[v, .int .i64 c])) w' := by
  subst h; subst hn; subst hx; exact ⟨_, rfl, own_base ho hB, hb⟩
theorem RetSIC.err {α : Type} {base e size : Nat} {row : List α → List Value} {r : List α × Int × Int} {w w' : World} {c : Int} (h : r = ([], 0, c)) (hrow : row [] = []) (hb : Below w.heap.size w w') :
    RetSIC base e size row r w (.returned (.tuple #[.slice none 0 0, .int .i64 0, .int .i64 c])) w' := by
  subst h; exact ⟨_, rfl, by rw [hrow]; exact World.ownsRow_nil _ _ _ _, hb⟩
theorem RetSIC.ok {α : Type} {base base' e size n : Nat} {row : List α → List Value} {r : List α × Int × Int} {w w' : World} {k c : Int} {l : List α} {v : Value} {xs : List Value} (h : r = (l, k, c)) (ho : w'.ownsRow base' e size v n xs) (hn : n = l.length) (hx : xs = row l) (hB : base ≤ base') (hb : Below w.heap.size w w') :
    RetSIC base e size row r w (.returned (.tuple #[v, .int .i64 k, .int .i64 c])) w' := by
  subst h; subst hn; subst hx; exact ⟨_, rfl, own_base ho hB, hb⟩
theorem RetIC.ok {r : Int × Int} {w w' : World} {k c : Int} (h : r = (k, c)) (hb : Below w.heap.size w w') : RetIC r w (.returned (.tuple #[.int .i64 k, .int .i64 c])) w' := by
  subst h; exact ⟨rfl, hb⟩
theorem RetBC.ok {r : Bool × Int} {w w' : World} {k : Bool} {c : Int} (h : r = (k, c)) (hb : Below w.heap.size w w') : RetBC r w (.returned (.tuple #[.bool k, .int .i64 c])) w' := by
  subst h; exact ⟨rfl, hb⟩
theorem RetB.ok {r b : Bool} {w w' : World} (h : r = b) (hb : Below w.heap.size w w') : RetB r w (.returned (.bool b)) w' := by
  subst h; exact ⟨rfl, hb⟩
/-- Two values whose blocks lie apart. -/
theorem ne_of_lt {u v : Value} {a b c d : Nat} (hu : ∀ k, u.ownBlock = some k → a ≤ k ∧ k < b) (hv : ∀ k, v.ownBlock = some k → c ≤ k ∧ k < d) (h : b ≤ c) : u.ownBlock = none ∨ u.ownBlock ≠ v.ownBlock := by
  cases hu' : u.ownBlock with
  | none => exact .inl rfl
  | some k =>
    refine .inr fun e => ?_
    have h1 := (hu k hu').2
    have h2 := (hv k e.symm).1
    omega
theorem ne_of_gt {u v : Value} {a b c d : Nat} (hu : ∀ k, u.ownBlock = some k → a ≤ k ∧ k < b) (hv : ∀ k, v.ownBlock = some k → c ≤ k ∧ k < d) (h : d ≤ a) : u.ownBlock = none ∨ u.ownBlock ≠ v.ownBlock := by
  cases hu' : u.ownBlock with
  | none => exact .inl rfl
  | some k =>
    refine .inr fun e => ?_
    have h1 := (hu k hu').1
    have h2 := (hv k e.symm).2
    omega
theorem ne_symm {u v : Value} (h : u.ownBlock = none ∨ u.ownBlock ≠ v.ownBlock) : v.ownBlock = none ∨ v.ownBlock ≠ u.ownBlock := by
  rcases h with h | h
  · cases hv : v.ownBlock with
    | none => exact .inl rfl
    | some k => exact .inr (by rw [h]; simp)
  · exact .inr (Ne.symm h)

/-! ### A block of the call's own, known whole -/
def Blk (w : World) (g : Nat) (t : TypeId) (cs : Array Value) : Prop := w.heap[g]? = some (.cells cs t (0, 0))
section
variable {w w' : World} {g : Nat} {t : TypeId} {cs : Array Value}
theorem Blk.lt (h : Blk w g t cs) : g < w.heap.size := (Array.getElem?_eq_some_iff.1 h).1
theorem Blk.cell (h : Blk w g t cs) (i : Nat) : w.cell? ⟨g, i, none⟩ = cs[i]? := cell_of_row w g i cs t (0, 0) h
theorem Blk.frozen (h : Blk w g t cs) (i : Nat) : w.frozen? ⟨g, i, none⟩ = false := frozen_of_row w g i cs t h
theorem Blk.new (w : World) (t : TypeId) (cs : Array Value) : Blk (w.alloc (.cells cs t)) w.heap.size t cs := heap_alloc_new w _
theorem Blk.drew (h : Blk w g t cs) : Blk w.drew g t cs := h
theorem Blk.alloc (h : Blk w g t cs) (o : Obj) : Blk (w.alloc o) g t cs := (Below.heap_alloc w o g h.lt).trans h
theorem Blk.set (h : Blk w g t cs) (i : Nat) (u : Value) : Blk (w.setCell ⟨g, i, none⟩ u) g t (cs.setIfInBounds i u) := heap_setCell_same w g i cs t u h
theorem Blk.far (h : Blk w g t cs) {p : Addr} (hp : g ≠ p.block) (u : Value) : Blk (w.setCell p u) g t cs := (heap_setCell_other w p g u hp).trans h
theorem Blk.below {B : Nat} (h : Blk w g t cs) (hb : Below B w w') (hg : g < B) : Blk w' g t cs := (hb.block g hg).trans h
theorem Blk.grown {row : Option Nat} (h : Blk w g t cs) (hb : w.grownBy w' row) (hg : some g ≠ row) : Blk w' g t cs := (hb.block g h.lt hg).trans h
theorem Blk.cell' (h : Blk w g t cs) (i : Nat) (o : Obj) : (w.alloc o).cell? ⟨g, i, none⟩ = cs[i]? := (h.alloc o).cell i
theorem Blk.frozen' (h : Blk w g t cs) (i : Nat) (o : Obj) : (w.alloc o).frozen? ⟨g, i, none⟩ = false := (h.alloc o).frozen i
end

/-! ### A row that is filled from its head -/
/-- The first m cells are those of ys. -/
def Pre (xs ys : List Value) (m : Nat) : Prop := ∀ j, j < m → xs[j]? = ys[j]?
theorem Pre.zero (xs ys : List Value) : Pre xs ys 0 := fun j h => absurd h (by omega)
theorem Pre.all {xs ys : List Value} {m : Nat} (h : Pre xs ys m) (h1 : xs.length = m) (h2 : ys.length = m) : xs = ys := by
  refine List.ext_getElem? fun j => ?_
  by_cases hj : j < m
  · exact h j hj
  · rw [List.getElem?_eq_none (by omega), List.getElem?_eq_none (by omega)]
theorem Pre.set {xs ys : List Value} {m : Nat} {u : Value} (h : Pre xs ys m) (hm : m < xs.length) (hu : ys[m]? = some u) : Pre (xs.set m u) ys (m + 1) := by
  intro j hj
  by_cases e : j = m
  · subst e; rw [hu, List.getElem?_set_self hm]
  · rw [List.getElem?_set_ne (by omega)]; exact h j (by omega)
end Go.Proofs.Ytecfkomijaakhaa
