/- The lists of Tube: their cells; the walks of the laws' own small functions on them (sz, to, eq, mark, held); an argument opened. Printed by gen.py. -/
import Derived.Test.YtmjjlpkleapaeaaOpen
import Derived.StillTactics
import Derived.Laws.Pointers
import Derived.Deep.RegionHeld3
import Derived.Lib.SmallJoins
namespace Go.Proofs.Ytmjjlpkleapaeaa
open Go.ChangeShapes Go.WideShapes Go.ChangeAt Go.RowKit Go.Deep

structure Tube where
  x : Int
  y : Int
instance : Inhabited Tube := ⟨⟨0, 0⟩⟩

/-- The cells of one. -/
def tubeCells (j : Tube) : List Value := [.int .i64 (j).x, .int .i64 (j).y]
def tubeRow (L : List Tube) : List Value := L.flatMap tubeCells
/-- The i-th. -/
def tubeAt (L : List Tube) (i : Nat) : Tube := L.getD i default

theorem tubeRow_len (L : List Tube) : (tubeRow L).length = L.length * 2 := by
  induction L with
  | nil => rfl
  | cons a l ih => simp only [tubeRow, List.flatMap_cons, List.length_append] at *; rw [ih]; simp [tubeCells]; omega
theorem tubeRow_cons (a : Tube) (L : List Tube) : tubeRow (a :: L) = .int .i64 (a).x :: .int .i64 (a).y :: tubeRow L := rfl
theorem tubeRow_append (L M : List Tube) : tubeRow (L ++ M) = tubeRow L ++ tubeRow M := by simp [tubeRow]
theorem tubeAt_lt {L : List Tube} {i : Nat} (h : i < L.length) : tubeAt L i = L[i] := by simp [tubeAt, List.getD, h]
theorem tubeAt_append_lt {L M : List Tube} {i : Nat} (h : i < L.length) : tubeAt (L ++ M) i = tubeAt L i := by simp [tubeAt, List.getD, h, List.getElem?_append_left]
theorem tubeRow_at (L : List Tube) : ∀ i, i < L.length → (tubeRow L)[i * 2]? = some (.int .i64 (tubeAt L i).x) ∧ (tubeRow L)[i * 2 + 1]? = some (.int .i64 (tubeAt L i).y) := by
  induction L with
  | nil => intro i h; simp at h
  | cons a l ih =>
    intro i h
    cases i with
    | zero => exact ⟨rfl, rfl⟩
    | succ i =>
      have := ih i (by simpa using h)
      rw [tubeRow_cons, show (i + 1) * 2 = i * 2 + 2 by omega]
      simpa [tubeAt, List.getD] using this
theorem tubeCells_one (j : Tube) : ∀ u ∈ tubeCells j, u.oneCell' = true := by
  intro u hu
  simp only [tubeCells, List.mem_cons, List.not_mem_nil, or_false] at hu
  rcases hu with rfl | rfl <;> rfl
theorem tubeRow_one (L : List Tube) : ∀ u ∈ tubeRow L, u.oneCell' = true := by
  intro u hu
  obtain ⟨j, _, hj⟩ := List.mem_flatMap.1 hu
  exact tubeCells_one j u hj
theorem tubeRow_inj {L M : List Tube} (hl : L.length = M.length) (h : ∀ i, i < L.length → tubeAt L i = tubeAt M i) : L = M := by
  refine List.ext_getElem hl fun i h1 h2 => ?_
  have := h i h1
  rwa [tubeAt_lt h1, tubeAt_lt h2] at this
theorem Rd.tube {w : World} {B : Nat} {A : Option Addr} {L : List Tube} (h : Rd w B 2 A L.length (tubeRow L)) {k : Nat} (hk : k < L.length) :
    ∃ g o, A = some ⟨g, o, none⟩ ∧ g < B ∧ w.cell? ⟨g, o + k * 2, none⟩ = some (.int .i64 (tubeAt L k).x) ∧ w.cell? ⟨g, o + k * 2 + 1, none⟩ = some (.int .i64 (tubeAt L k).y) := by
  obtain ⟨g, o, e, hg, hc⟩ := h.2 (by omega)
  obtain ⟨e0, e1⟩ := tubeRow_at L k hk
  exact ⟨g, o, e, hg, hc _ _ e0, by rw [Nat.add_assoc]; exact hc _ _ e1⟩
theorem Pre.tube {xs ys : List Value} {k : Nat} {u0 u1 : Value} (h : Pre xs ys (k * 2)) (hm : k * 2 + 1 < xs.length) (h0 : ys[k * 2]? = some u0) (h1 : ys[k * 2 + 1]? = some u1) :
    Pre ((xs.set (k * 2) u0).set (k * 2 + 1) u1) ys ((k + 1) * 2) := by
  rw [show (k + 1) * 2 = k * 2 + 1 + 1 by omega]
  exact ((h.set (by omega) h0).set (by simp; omega) h1)

/-- Its texts are no longer than a text can be. -/
def tubeFit (L : List Tube) : Prop := ∀ i, i < L.length → True

set_option maxHeartbeats 400000 in
theorem szTubeS_any (L : List Tube) (v : Value) (n : Int) (w : World) (hv : Sl w 2 v L.length (tubeRow L)) (_ : tubeFit L) (h0 : 0 ≤ n) (h1 : n ≤ 1048576) :
    Calls Try.prog 11 #[v, .int .i64 n] w (SzPost L.length w) := by
  obtain ⟨A, c, rfl, hl, hc, hr⟩ := hv
  unfold maxLen at hc
  clear hr
  by_cases hn : n < L.length
  · go_enter Try.func11, Try.ntmps11
    go_wp2
    go_ret
    exact ⟨-1, rfl, by omega, by omega, Below.refl _ _⟩
  · go_enter Try.func11, Try.ntmps11
    go_wp2
    go_ret
    exact ⟨_, rfl, by omega, by omega, Below.refl _ _⟩

set_option maxHeartbeats 400000 in
theorem toTube_any (j : Tube) (w : World) :
    Calls Try.prog 45 #[.agg #[.int .i64 (j).x, .int .i64 (j).y]] w fun e w' => e = .returned (.agg #[.int .i64 (j).x, .int .i64 (j).y]) ∧ Below w.heap.size w w' := by
  go_enter Try.func45, Try.ntmps45
  go_wp2
  refine bodyPost_ret (v := .agg #[.int .i64 (j).x, .int .i64 (j).y]) (by simp [results, Try.results45, go_sem]) rfl ⟨rfl, ?_⟩
  exact (((Below.refl _ _).alloc (by simp) _).alloc (by simp) _).alloc (by simp; omega) _

theorem Try.infoTube : (Try.prog.info? 54).map (fun i => (i.zero, i.size, i.bytes)) = some (some (.agg #[.int .i64 0, .int .i64 0]), 2, 16) := by kernel_rfl

set_option maxHeartbeats 400000 in
theorem toTubeS_any (L : List Tube) (v : Value) (w : World) (hv : Sl w 2 v L.length (tubeRow L)) (hn : L.length ≤ 1048576) :
    Calls Try.prog 13 #[v] w (Gives w.heap.size 54 2 L.length (tubeRow L) w) := by
  obtain ⟨A, c, rfl, hl, hc, hr⟩ := hv
  have Hr := Lib.hid hr
  clear hr hl hc
  obtain ⟨i0, hi, hz0, hz1, hz2⟩ := info_parts Try.infoTube
  go_enter Try.func13, Try.ntmps13
  go_wp2_with (at_make; refine wpList_make_full _ rfl _ _ 26 rfl w.heap.size 54 i0 _ 2 Try.underlying26 hi hz0 hz1 _ _ _ _ L.length rfl rfl rfl rfl ?b1 ?b2 ?b3 ?_)
  case b1 => rw [hz2]; omega
  case b2 => unfold maxLen; omega
  case b3 => exact Nat.le_refl _
  intro w1 hown hgr
  have hb1 := (Below.refl w.heap.size w).grown hgr (Nat.le_refl _) (fun _ h => by cases h)
  clear hgr
  go_wp2
  go_loopw [4] (fun i wr => ∃ (k : Nat) (xs : List Value), k ≤ L.length ∧ i = .int .i64 k ∧ wr.ownsRow w.heap.size 54 2 (.slice (some ⟨w.heap.size, 0, none⟩) L.length L.length) L.length xs ∧ Pre xs (tubeRow L) (k * 2) ∧ Below w.heap.size w wr)
    (fun i _ => L.length - (intOf i).toNat)
  case atStart => exact ⟨0, _, Nat.zero_le _, rfl, hown, by rw [Nat.zero_mul]; exact Pre.zero _ _, hb1⟩
  case round =>
    obtain ⟨k, xs, hk, rfl, ho, hp, hb⟩ := hrel
    have Ho := Lib.hid ho
    have Hp := Lib.hid hp
    clear ho hp hown
    have hsz := hb.size
    by_cases hlt : k < L.length
    · obtain ⟨g, o, rfl, hg, c0, c1⟩ := (Hr.out.below hb (Nat.le_refl _)).tube hlt
      go_wp2_with fail
      refine (toTube_any (tubeAt L k) _).mono ?_
      rintro e w2 ⟨rfl, hb2⟩
      have ho2 := own_below Ho.out hb2
      obtain ⟨x0, d0⟩ := own_cell ho2 (j := k * 2) (by omega)
      have f0 := ho2.frozenAt (k * 2)
      obtain ⟨x1, d1⟩ := own_cell ho2 (j := k * 2 + 1) (by omega)
      have f1 := ho2.frozenAt (k * 2 + 1)
      have Ho2 := Lib.hid ho2
      clear ho2
      go_wp2
      go_roundw
      case rel =>
        obtain ⟨q0, q1⟩ := tubeRow_at L k hlt
        have hlen := Ho2.out.1
        exact ⟨k + 1, _, by omega, by go_num, ((Ho2.out.stored (k * 2) _).1.stored (k * 2 + 1) _).1, Hp.out.tube (by omega) q0 q1, (((hb.trans (hb2.mono hsz)).setCell (Nat.le_refl _) _).setCell (Nat.le_refl _) _)⟩
      case measure => simp [intOf]; omega
    · go_wp2
      go_ret
      have hk2 : k = L.length := by omega
      subst hk2
      refine ⟨_, rfl, ?_, hb⟩
      rw [← Hp.out.all Ho.out.1 (tubeRow_len L)]
      exact Ho.out

set_option maxHeartbeats 400000 in
theorem eqTube_same (j : Tube) (w : World) :
    Calls Try.prog 47 #[.agg #[.int .i64 (j).x, .int .i64 (j).y], .agg #[.int .i64 (j).x, .int .i64 (j).y]] w fun e w' => e = .returned (.bool true) ∧ Below w.heap.size w w' := by
  go_enter Try.func47, Try.ntmps47
  go_wp2
  go_ret
  exact ⟨rfl, ((Below.refl _ _).alloc (by simp) _).alloc (by simp) _⟩

set_option maxHeartbeats 800000 in
theorem eqTubeS_same (L : List Tube) (v v' : Value) (w : World) (hv : Sl w 2 v L.length (tubeRow L)) (hv' : Sl w 2 v' L.length (tubeRow L)) (hn : L.length ≤ 4194304) :
    Calls Try.prog 15 #[v, v'] w fun e w' => e = .returned (.bool true) ∧ Below w.heap.size w w' := by
  obtain ⟨A, c, rfl, hl, hc, hr⟩ := hv
  obtain ⟨A', c', rfl, hl', hc', hr'⟩ := hv'
  have Hr := Lib.hid hr
  have Hr' := Lib.hid hr'
  clear hr hr' hl hl' hc hc'
  go_enter Try.func15, Try.ntmps15
  go_wp2
  go_loopw [5] (fun i wr => ∃ k : Nat, k ≤ L.length ∧ i = .int .i64 k ∧ Below w.heap.size w wr) (fun i _ => L.length - (intOf i).toNat)
  case atStart => exact ⟨0, Nat.zero_le _, rfl, Below.refl _ _⟩
  case round =>
    obtain ⟨k, hk, rfl, hb⟩ := hrel
    have hsz := hb.size
    by_cases hlt : k < L.length
    · obtain ⟨g, o, rfl, hg, c0, c1⟩ := (Hr.out.below hb (Nat.le_refl _)).tube hlt
      obtain ⟨g', o', rfl, hg', c0', c1'⟩ := (Hr'.out.below hb (Nat.le_refl _)).tube hlt
      have i0 : (0 : Int) ≤ (k : Int) := Int.natCast_nonneg _
      have i1 : (k : Int) < (L.length : Int) := by omega
      go_wp2_with fail
      go_region_held3 (fun w' => w'.cell? ⟨g, o + k * 2, none⟩ = some (.int .i64 (tubeAt L k).x) ∧ w'.cell? ⟨g, o + k * 2 + 1, none⟩ = some (.int .i64 (tubeAt L k).y) ∧ w'.cell? ⟨g', o' + k * 2, none⟩ = some (.int .i64 (tubeAt L k).x) ∧ w'.cell? ⟨g', o' + k * 2 + 1, none⟩ = some (.int .i64 (tubeAt L k).y))
        (first | (go_split_ands; refine ⟨?_, ?_, ?_, ?_⟩ <;> (rw [hb2.cell (by simp; omega)]; assumption)) | go_keep) ((go_at_call 47; refine (eqTube_same (tubeAt L k) _).mono ?_; rintro e w2 ⟨rfl, hb2⟩))
      go_wp2
      go_roundw
      case rel => exact ⟨k + 1, by omega, by go_num, hb.drew.trans (hb2.mono hsz)⟩
      case measure => simp [intOf]; omega
    · go_wp2
      go_ret
      exact ⟨rfl, hb⟩

/-- Marks from k on. -/
def tubeMk (k n : Nat) : List Tube := (List.range n).map fun i => ⟨((k + 2 * i : Nat) : Int), ((k + 2 * i + 1 : Nat) : Int)⟩
theorem tubeMk_len (k n : Nat) : (tubeMk k n).length = n := by simp [tubeMk]
theorem tubeMk_at (k n i : Nat) (h : i < n) : tubeAt (tubeMk k n) i = ⟨((k + 2 * i : Nat) : Int), ((k + 2 * i + 1 : Nat) : Int)⟩ := by
  simp [tubeAt, tubeMk, List.getD, h]
theorem tubeMk_row (k n i : Nat) (h : i < n) : (tubeRow (tubeMk k n))[i * 2]? = some (.int .i64 ((k + 2 * i : Nat) : Int)) ∧ (tubeRow (tubeMk k n))[i * 2 + 1]? = some (.int .i64 ((k + 2 * i + 1 : Nat) : Int)) := by
  have := tubeRow_at (tubeMk k n) i (by rw [tubeMk_len]; exact h)
  rw [tubeMk_at _ _ _ h] at this
  exact this

set_option maxHeartbeats 800000 in
theorem markTubeS_any (base n k : Nat) (v : Value) (xs : List Value) (w : World) (ho : w.ownsRow base 54 2 v n xs) (hk1 : 1 ≤ k) (hk2 : k ≤ 1073741824) (hn : n ≤ 4194304) :
    Calls Try.prog 20 #[v, .int .i64 k] w (MarkPost base 54 2 v n (tubeRow (tubeMk k n)) (k + 2 * n) w) := by
  obtain ⟨A, c, rfl, _, _⟩ := own_slice ho
  have Ho := Lib.hid ho
  clear ho
  go_enter Try.func20, Try.ntmps20
  go_wp2
  go_loopw [1, 5] (fun v i wr => ∃ (m q : Nat) (ys : List Value), m = k + 2 * q ∧ q ≤ n ∧ v = .int .i64 m ∧ i = .int .i64 q ∧ wr.ownsRow base 54 2 (.slice A n c) n ys ∧ Pre ys (tubeRow (tubeMk k n)) (q * 2) ∧ w.grownBy wr (Value.slice A n c).ownBlock)
    (fun _ i _ => n - (intOf i).toNat)
  case atStart => exact ⟨k, 0, xs, by omega, Nat.zero_le _, rfl, rfl, Ho.out, by rw [Nat.zero_mul]; exact Pre.zero _ _, gb_refl _ _⟩
  case round =>
    obtain ⟨m, q, ys, hm, hq, rfl, rfl, h1, hp, hg⟩ := hrel
    have hm1 : 1 ≤ m := by omega
    have hm2 : m ≤ 1099511627776 := by omega
    have Hm := Lib.hid hm
    have H1 := Lib.hid h1
    have Hp := Lib.hid hp
    have Hg := Lib.hid hg
    clear hm h1 hp hg
    by_cases hlt : q < n
    · obtain ⟨g, cc, hv, hb0, hglt⟩ := own_form H1.out (by omega)
      injection hv with hA hn' hc'
      subst hA
      clear hc' hn' cc
      have hb2 := Below.refl wr.heap.size wr
      have ho2 := H1.out
      obtain ⟨x0, d0⟩ := own_cell ho2 (j := q * 2) (by omega)
      have f0 := ho2.frozenAt (q * 2)
      obtain ⟨x1, d1⟩ := own_cell ho2 (j := q * 2 + 1) (by omega)
      have f1 := ho2.frozenAt (q * 2 + 1)
      have Ho2 := Lib.hid ho2
      clear ho2
      go_wp2
      go_roundw
      case rel =>
        obtain ⟨r0, r1⟩ := tubeMk_row k n q hlt
        have e0 := Hm.out
        subst e0
        have hlen := Ho2.out.1
        obtain ⟨s0, t0⟩ := Ho2.out.stored (q * 2) (.int .i64 ((k + 2 * q : Nat) : Int))
        obtain ⟨s1, t1⟩ := s0.stored (q * 2 + 1) (.int .i64 ((k + 2 * q + 1 : Nat) : Int))
        exact ⟨k + 2 * q + 2, q + 1, _, by omega, by omega, by go_num, by go_num, s1, Hp.out.tube (by omega) r0 r1, (gb_trans (gb_trans (gb_below Hg.out hb2) t0) t1)⟩
      case measure => simp [intOf]; omega
    · go_wp2
      go_ret
      have hq2 : q = n := by omega
      subst hq2
      have e0 := Hm.out
      subst e0
      refine ⟨_, rfl, rfl, ?_, Hg.out⟩
      rw [← Hp.out.all H1.out.1 (by rw [tubeRow_len, tubeMk_len])]
      exact H1.out

set_option maxHeartbeats 800000 in
theorem heldTubeS_any (n k : Nat) (v : Value) (w : World) (hv : Sl w 2 v n (tubeRow (tubeMk k n))) (hk1 : 1 ≤ k) (hk2 : k ≤ 1073741824) (hn : n ≤ 4194304) :
    Calls Try.prog 21 #[v, .int .i64 k] w (HeldPost (k + 2 * n) w) := by
  obtain ⟨A, c, rfl, _, _, hr⟩ := hv
  have Hr := Lib.hid hr
  clear hr
  go_enter Try.func21, Try.ntmps21
  go_wp2
  go_loopw [1, 5] (fun v i wr => ∃ (m q : Nat), m = k + 2 * q ∧ q ≤ n ∧ v = .int .i64 m ∧ i = .int .i64 q ∧ Below w.heap.size w wr) (fun _ i _ => n - (intOf i).toNat)
  case atStart => exact ⟨k, 0, by omega, Nat.zero_le _, rfl, rfl, Below.refl _ _⟩
  case round =>
    obtain ⟨m, q, hm, hq, rfl, rfl, hb⟩ := hrel
    have hsz := hb.size
    have hm1 : 1 ≤ m := by omega
    have hm2 : m ≤ 1099511627776 := by omega
    by_cases hlt : q < n
    · have hj := (Rd.tube (L := tubeMk k n) (by rw [tubeMk_len]; exact (Hr.out.below hb (Nat.le_refl _))) (k := q) (by rw [tubeMk_len]; exact hlt))
      rw [tubeMk_at _ _ _ hlt, ← hm] at hj
      obtain ⟨g, o, rfl, hg, c0, c1⟩ := hj
      have Hm := Lib.hid hm
      clear hm
      have i0 : (0 : Int) ≤ (q : Int) := Int.natCast_nonneg _
      have i1 : (q : Int) < (n : Int) := by omega
      go_wp2
      go_roundw
      case rel => exact ⟨m + 2, q + 1, by have := Hm.out; omega, by omega, by go_num, by go_num, hb⟩
      case measure => simp [intOf]; omega
    · go_wp2
      go_ret
      have hq2 : q = n := by omega
      subst hq2
      subst hm
      exact ⟨_, rfl, rfl, hb⟩

theorem open_tubes {H : Type} {enc : TypeId × Value → H} {w : World} {r : Reach} {b : Nat} {v : Value} {d : DataW H} {p : List MemPlace} (hv : Value.okWide Try.prog w r b 22 v)
    (h : DataW.Trod enc Try.prog w 0 (fun _ => true) true 22 v d p) :
    ∃ L : List Tube, Sl w 2 v L.length (tubeRow L) ∧ tubeFit L := by
  rcases open_structs Try.underlying22 Try.underlying56 (by kernel_rfl) (by kernel_rfl) (okWide_slice Try.underlying22 hv) h with rfl | ⟨a, len, cap, rfl, hl, hc, hf⟩
  · exact ⟨[], Sl.nil, fun i h => absurd h (by simp)⟩
  · have hg : ∀ i, i < len → ∃ j : Tube, w.cell? (a.add (i * 2 + 0)) = some (.int .i64 (j).x) ∧ w.cell? (a.add (i * 2 + 1)) = some (.int .i64 (j).y) ∧ True := by
      intro i hi
      obtain ⟨u0, f0⟩ := hf i hi 0 _ rfl
      obtain ⟨u1, f1⟩ := hf i hi 1 _ rfl
      obtain ⟨y0, rfl, z0⟩ := f0.int Try.underlying2
      obtain ⟨y1, rfl, z1⟩ := f1.int Try.underlying2
      exact ⟨⟨y0, y1⟩, f0.1, f1.1, trivial⟩
    obtain ⟨J, hJ⟩ := choose_lt hg
    refine ⟨(List.range len).map J, ⟨some a, cap, by simp, by simpa using hl, hc, by rw [tubeRow_len], fun hn => ?_⟩, fun i hi => ?_⟩
    · have hn' : 0 < len := by simpa using hn
      obtain ⟨u0, f0⟩ := hf 0 hn' 0 _ rfl
      obtain ⟨g, o, rfl, hgl⟩ := f0.plain
      refine ⟨g, o, rfl, hgl, fun j u hu => ?_⟩
      have hj : j < ((List.range len).map J).length * 2 := by rw [← tubeRow_len]; exact (List.getElem?_eq_some_iff.1 hu).1
      have hj' : j / 2 < len := by simp at hj; omega
      have ha : tubeAt ((List.range len).map J) (j / 2) = J (j / 2) := by simp [tubeAt, List.getD, hj']
      obtain ⟨q0, q1⟩ := tubeRow_at ((List.range len).map J) (j / 2) (by simpa using hj')
      obtain ⟨c0, c1, _⟩ := hJ (j / 2) hj'
      rw [ha] at q0 q1
      rw [addr_add] at c0 c1
      have hcase : j = j / 2 * 2 ∨ j = j / 2 * 2 + 1 := by omega
      rcases hcase with e | e
      · rw [e] at hu ⊢; rw [q0] at hu; cases hu; exact c0
      · rw [e] at hu ⊢; rw [q1] at hu; cases hu; exact c1
    · have hi' : i < len := by simpa using hi
      have ha : tubeAt ((List.range len).map J) i = J i := by simp [tubeAt, List.getD, hi']
      exact trivial


end Go.Proofs.Ytmjjlpkleapaeaa
