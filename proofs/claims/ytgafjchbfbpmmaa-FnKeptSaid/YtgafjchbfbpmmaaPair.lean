/- Quotients rounded up; two rows of the call's own. Printed by gen_plan.py. -/
import Derived.Test.YtgafjchbfbpmmaaBits
import Derived.IntWalk
namespace Go.Proofs.Ytgafjchbfbpmmaa
open Go.RowKit

/-- A quotient, rounded up. -/
def ceilI (a b : Int) : Int := (a + b - 1) / b
theorem ceil_neg {a b : Int} (hb : 0 < b) : ceilI a b = -((-a) / b) := by
  have h1 := Int.mul_ediv_add_emod (-a) b
  have h2 := Int.emod_nonneg (-a) (show b ≠ 0 by omega)
  have h3 := Int.emod_lt_of_pos (-a) hb
  have e : a + b - 1 = (b - 1 - (-a) % b) + b * (-((-a) / b)) := by
    rw [Int.mul_neg]; omega
  rw [ceilI, e, Int.add_mul_ediv_left _ _ (by omega : b ≠ 0), Int.ediv_eq_zero_of_lt (by omega) (by omega)]; omega
theorem ceil_bd {a b : Int} (ha : 0 < a) (hb : 0 < b) : 0 ≤ ceilI a b ∧ ceilI a b ≤ a ∧ 0 ≤ ceilI a b * b ∧ ceilI a b * b ≤ a + b := by
  have h1 := Int.mul_ediv_add_emod (a + b - 1) b
  have h2 := Int.emod_nonneg (a + b - 1) (show b ≠ 0 by omega)
  have h3 := Int.emod_lt_of_pos (a + b - 1) hb
  have h4 : 0 ≤ ceilI a b := Int.ediv_nonneg (by omega) (by omega)
  rw [show (a + b - 1) / b = ceilI a b from rfl, Int.mul_comm] at h1
  have h5 : 0 ≤ ceilI a b * b := Int.mul_nonneg h4 (by omega)
  refine ⟨h4, ?_, h5, by omega⟩
  have h6 : (ceilI a b - 1) * b < a := by rw [Int.sub_mul]; omega
  by_cases h7 : ceilI a b ≤ 1
  · omega
  · have h8 : (ceilI a b - 1) * 1 ≤ (ceilI a b - 1) * b := Int.mul_le_mul_of_nonneg_left (by omega) (by omega)
    omega
set_option maxHeartbeats 400000 in
theorem implCeil_any (a b : Int) (w : World) (ha : 0 < a ∧ a ≤ 1000000000000) (hb : 0 < b ∧ b ≤ 1000000000000) :
    Calls Try.prog 81 #[.int .i64 a, .int .i64 b] w fun e w' => e = .returned (.int .i64 (ceilI a b)) ∧ w = w' := by
  obtain ⟨h1, h2⟩ := ha
  obtain ⟨h3, h4⟩ := hb
  go_enter Try.func81, Try.ntmps81
  go_wp2
  go_ret
  exact ⟨rfl, rfl⟩
theorem tfloor {a b : Int} (ha : 0 < a) (hb : 0 < b) : (0 < a % b → -a.tdiv b - 1 = (-a) / b) ∧ (¬ 0 < a % b → -a.tdiv b = (-a) / b) := by
  have e3 : a.tdiv b = a / b := Int.tdiv_eq_ediv_of_nonneg (by omega)
  rw [e3]
  have h1 := Int.mul_ediv_add_emod a b
  have h2 := Int.emod_nonneg a (show b ≠ 0 by omega)
  have h3 := Int.emod_lt_of_pos a hb
  have h4 := Int.mul_ediv_add_emod (-a) b
  have h5 := Int.emod_nonneg (-a) (show b ≠ 0 by omega)
  have h6 := Int.emod_lt_of_pos (-a) hb
  constructor
  · intro h
    have e : -a = (b - a % b) + b * (-(a / b) - 1) := by rw [Int.mul_sub, Int.mul_neg]; omega
    rw [e, Int.add_mul_ediv_left _ _ (by omega : b ≠ 0), Int.ediv_eq_zero_of_lt (a := b - a % b) (b := b) (by omega) (by omega)]; omega
  · intro h
    have h0 : a % b = 0 := by omega
    have e : -a = b * (-(a / b)) := by rw [Int.mul_neg]; omega
    rw [e, Int.mul_ediv_cancel_left _ (by omega : b ≠ 0)]
set_option maxHeartbeats 800000 in
theorem specFloor_any (a b : Int) (w : World) (ha : 0 < a ∧ a ≤ 1000000000000) (hb : 0 < b ∧ b ≤ 1000000000000) :
    Calls Try.prog 88 #[.int .i64 (-a), .int .i64 b] w fun e w' => e = .returned (.int .i64 ((-a) / b)) ∧ w = w' := by
  obtain ⟨h1, h2⟩ := ha
  obtain ⟨h3, h4⟩ := hb
  have H := Lib.hid (tfloor h1 h3)
  have hq : 0 ≤ a.tdiv b ∧ a.tdiv b ≤ 1000000000000 := by
    rw [Int.tdiv_eq_ediv_of_nonneg (by omega)]
    have e1 := Int.ediv_nonneg (show 0 ≤ a by omega) (show 0 ≤ b by omega)
    have e2 := Int.ediv_le_self b (show 0 ≤ a by omega)
    omega
  obtain ⟨q1, q2⟩ := hq
  by_cases hm : 0 < a % b
  · have E := Lib.hid (H.out.1 hm)
    have t1 : decide (0 < a % b) = true := by simpa using hm
    go_enter Try.func88, Try.ntmps88
    go_wp2
    go_ret
    exact ⟨retI E.out, rfl⟩
  · have E := Lib.hid (H.out.2 hm)
    have t1 : decide (0 < a % b) = false := by simpa using hm
    go_enter Try.func88, Try.ntmps88
    go_wp2
    go_ret
    exact ⟨retI E.out, rfl⟩
set_option maxHeartbeats 800000 in
theorem specCeil_any (a b : Int) (w : World) (ha : 0 < a ∧ a ≤ 1000000000000) (hb : 0 < b ∧ b ≤ 1000000000000) :
    Calls Try.prog 83 #[.int .i64 a, .int .i64 b] w fun e w' => e = .returned (.int .i64 (ceilI a b)) ∧ w = w' := by
  have E := Lib.hid (ceil_neg (a := a) hb.1)
  have hbd := ceil_bd ha.1 hb.1
  rw [E.out] at hbd
  obtain ⟨c1, c2, _⟩ := hbd
  obtain ⟨h1, h2⟩ := ha
  obtain ⟨h3, h4⟩ := hb
  have h5 : -1000000000000 ≤ (-a) / b := by omega
  have h6 : (-a) / b ≤ 0 := by omega
  clear c1 c2
  go_enter Try.func83, Try.ntmps83
  go_wp2_with fail
  refine (specFloor_any a b w ⟨h1, h2⟩ ⟨h3, h4⟩).mono ?_
  rintro e w' ⟨rfl, rfl⟩
  go_wp2
  go_ret
  exact ⟨retI E.out.symm, rfl⟩

theorem apart_append {u v v' : Value} {a : Nat} {w : World} (h : u.ownBlock = none ∨ u.ownBlock ≠ v.ownBlock) (hu : ∀ k, u.ownBlock = some k → a ≤ k ∧ k < w.heap.size) (hor : v'.ownBlock = v.ownBlock ∨ v'.ownBlock = some w.heap.size) : u.ownBlock = none ∨ u.ownBlock ≠ v'.ownBlock := by
  rcases hor with e | e
  · rw [e]; exact h
  · cases hu' : u.ownBlock with
    | none => exact .inl rfl
    | some k => exact .inr (by rw [e]; have := (hu k hu').2; simp; omega)

/-- The slice u (of n elements) lies in another block than v. -/
def Apart (u v : Value) (n : Nat) (w : World) : Prop := 0 < n → ∀ g, u.ownBlock = some g → g < w.heap.size ∧ v.ownBlock ≠ some g
theorem Sl.blk {w : World} {size n : Nat} {v : Value} {xs : List Value} (h : Sl w size v n xs) (hn : 0 < n) : ∀ g, v.ownBlock = some g → g < w.heap.size := by
  obtain ⟨A, c, rfl, _, _, _, hr⟩ := h
  obtain ⟨g, o, rfl, hg, _⟩ := hr hn
  intro k hk
  simp [Value.ownBlock] at hk
  omega
theorem Apart.start {w wo : World} {size n : Nat} {v : Value} {xs : List Value} {o : Obj} (h : Sl w size v n xs) (hs : w.heap.size ≤ wo.heap.size) : Apart v (.slice (some ⟨wo.heap.size, 0, none⟩) 0 0) n (wo.alloc o) := by
  intro hn g hg
  have := h.blk hn g hg
  refine ⟨by simp; omega, ?_⟩
  simp [Value.ownBlock]; omega
theorem Apart.mono {u v : Value} {n : Nat} {w w' : World} (h : Apart u v n w) (hs : w.heap.size ≤ w'.heap.size) : Apart u v n w' := fun hn g hg => ⟨Nat.lt_of_lt_of_le (h hn g hg).1 hs, (h hn g hg).2⟩
theorem Apart.append {u v v' : Value} {n : Nat} {w w' : World} (h : Apart u v n w) (hor : v'.ownBlock = v.ownBlock ∨ v'.ownBlock = some w.heap.size) (hs : w.heap.size ≤ w'.heap.size) : Apart u v' n w' := by
  intro hn g hg
  obtain ⟨h1, h2⟩ := h hn g hg
  refine ⟨by omega, ?_⟩
  rcases hor with e | e
  · rw [e]; exact h2
  · rw [e]; simp; omega
theorem Apart.fresh {u v : Value} {n m base size size' : Nat} {e e' : TypeId} {xs ys : List Value} {w w' : World} (h : w'.ownsRow w.heap.size e size u n xs) (h' : w.ownsRow base e' size' v m ys) : Apart u v n w' := by
  intro _ g hg
  have h1 := World.ownsRow.lt h g hg
  refine ⟨h1.2, fun hv => ?_⟩
  have h2 := World.ownsRow.lt h' g hv
  omega
theorem Sl.grown_apart {w w' : World} {size n : Nat} {v u : Value} {xs : List Value} (h : Sl w size v n xs) (hg : w.grownBy w' u.ownBlock) (ha : Apart v u n w) : Sl w' size v n xs := by
  rcases Nat.eq_zero_or_pos n with h0 | h0
  · subst h0
    obtain ⟨A, c, rfl, h1, h2, h3, _⟩ := h
    exact ⟨A, c, rfl, h1, h2, h3, fun hn => absurd hn (by omega)⟩
  · exact h.grown hg (fun g hu hv => (ha h0 g hv).2 hu)
theorem Apart.nil {u : Value} {n size : Nat} {xs : List Value} {w : World} (h : Sl w size u n xs) : Apart u (.slice none 0 0) n w := fun hn g hg => ⟨h.blk hn g hg, by simp [Value.ownBlock]⟩
theorem RetSSC.ok {α β : Type} {base b1 b2 e size e2 size2 : Nat} {row : List α → List Value} {row2 : List β → List Value} {r : List α × List β × Int} {w w' : World} {c : Int} {l : List α} {m : List β} {v u : Value} {n1 n2 : Nat} {xs ys : List Value} (h : r = (l, m, c))
    (ho : w'.ownsRow b1 e size v n1 xs) (hn1 : n1 = l.length) (hx : xs = row l) (ho2 : w'.ownsRow b2 e2 size2 u n2 ys) (hn2 : n2 = m.length) (hy : ys = row2 m) (hB1 : base ≤ b1) (hB2 : base ≤ b2) (hne : v.ownBlock = none ∨ v.ownBlock ≠ u.ownBlock) (hb : Below w.heap.size w w') :
    RetSSC base e size row e2 size2 row2 r w (.returned (.tuple #[v, u, .int .i64 c])) w' := by
  subst h; subst hn1; subst hn2; subst hx; subst hy
  exact ⟨v, u, rfl, own_base ho hB1, own_base ho2 hB2, hne, hb⟩

end Go.Proofs.Ytgafjchbfbpmmaa
