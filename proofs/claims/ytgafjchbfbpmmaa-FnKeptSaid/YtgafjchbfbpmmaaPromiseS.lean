/- The lists of Promise: their cells; the walks of the laws' own small functions on them (sz, to, eq, mark, held); an argument opened. Printed by gen.py. -/
import Derived.Test.YtgafjchbfbpmmaaMark
import Derived.Test.YtgafjchbfbpmmaaOpen
import Derived.StillTactics
import Derived.Laws.Pointers
import Derived.Deep.RegionHeld3
import Derived.Lib.SmallJoins
namespace Go.Proofs.Ytgafjchbfbpmmaa
open Go.ChangeShapes Go.WideShapes Go.ChangeAt Go.RowKit Go.Deep

structure Promise where
  name : ByteArray
  day : Int
  min : Int
instance : Inhabited Promise := ⟨⟨⟨#[]⟩, 0, 0⟩⟩

/-- The cells of one. -/
def promiseCells (j : Promise) : List Value := [.string (j).name, .int .i64 (j).day, .int .i64 (j).min]
def promiseRow (L : List Promise) : List Value := L.flatMap promiseCells
/-- The i-th. -/
def promiseAt (L : List Promise) (i : Nat) : Promise := L.getD i default

theorem promiseRow_len (L : List Promise) : (promiseRow L).length = L.length * 3 := by
  induction L with
  | nil => rfl
  | cons a l ih => simp only [promiseRow, List.flatMap_cons, List.length_append] at *; rw [ih]; simp [promiseCells]; omega
theorem promiseRow_cons (a : Promise) (L : List Promise) : promiseRow (a :: L) = .string (a).name :: .int .i64 (a).day :: .int .i64 (a).min :: promiseRow L := rfl
theorem promiseRow_append (L M : List Promise) : promiseRow (L ++ M) = promiseRow L ++ promiseRow M := by simp [promiseRow]
theorem promiseAt_lt {L : List Promise} {i : Nat} (h : i < L.length) : promiseAt L i = L[i] := by simp [promiseAt, List.getD, h]
theorem promiseAt_append_lt {L M : List Promise} {i : Nat} (h : i < L.length) : promiseAt (L ++ M) i = promiseAt L i := by simp [promiseAt, List.getD, h, List.getElem?_append_left]
theorem promiseRow_at (L : List Promise) : ∀ i, i < L.length → (promiseRow L)[i * 3]? = some (.string (promiseAt L i).name) ∧ (promiseRow L)[i * 3 + 1]? = some (.int .i64 (promiseAt L i).day) ∧ (promiseRow L)[i * 3 + 2]? = some (.int .i64 (promiseAt L i).min) := by
  induction L with
  | nil => intro i h; simp at h
  | cons a l ih =>
    intro i h
    cases i with
    | zero => exact ⟨rfl, rfl, rfl⟩
    | succ i =>
      have := ih i (by simpa using h)
      rw [promiseRow_cons, show (i + 1) * 3 = i * 3 + 3 by omega]
      simpa [promiseAt, List.getD] using this
theorem promiseCells_one (j : Promise) : ∀ u ∈ promiseCells j, u.oneCell' = true := by
  intro u hu
  simp only [promiseCells, List.mem_cons, List.not_mem_nil, or_false] at hu
  rcases hu with rfl | rfl | rfl <;> rfl
theorem promiseRow_one (L : List Promise) : ∀ u ∈ promiseRow L, u.oneCell' = true := by
  intro u hu
  obtain ⟨j, _, hj⟩ := List.mem_flatMap.1 hu
  exact promiseCells_one j u hj
theorem promiseRow_inj {L M : List Promise} (hl : L.length = M.length) (h : ∀ i, i < L.length → promiseAt L i = promiseAt M i) : L = M := by
  refine List.ext_getElem hl fun i h1 h2 => ?_
  have := h i h1
  rwa [promiseAt_lt h1, promiseAt_lt h2] at this
theorem Rd.promise {w : World} {B : Nat} {A : Option Addr} {L : List Promise} (h : Rd w B 3 A L.length (promiseRow L)) {k : Nat} (hk : k < L.length) :
    ∃ g o, A = some ⟨g, o, none⟩ ∧ g < B ∧ w.cell? ⟨g, o + k * 3, none⟩ = some (.string (promiseAt L k).name) ∧ w.cell? ⟨g, o + k * 3 + 1, none⟩ = some (.int .i64 (promiseAt L k).day) ∧ w.cell? ⟨g, o + k * 3 + 2, none⟩ = some (.int .i64 (promiseAt L k).min) := by
  obtain ⟨g, o, e, hg, hc⟩ := h.2 (by omega)
  obtain ⟨e0, e1, e2⟩ := promiseRow_at L k hk
  exact ⟨g, o, e, hg, hc _ _ e0, by rw [Nat.add_assoc]; exact hc _ _ e1, by rw [Nat.add_assoc]; exact hc _ _ e2⟩
theorem Pre.promise {xs ys : List Value} {k : Nat} {u0 u1 u2 : Value} (h : Pre xs ys (k * 3)) (hm : k * 3 + 2 < xs.length) (h0 : ys[k * 3]? = some u0) (h1 : ys[k * 3 + 1]? = some u1) (h2 : ys[k * 3 + 2]? = some u2) :
    Pre (((xs.set (k * 3) u0).set (k * 3 + 1) u1).set (k * 3 + 2) u2) ys ((k + 1) * 3) := by
  rw [show (k + 1) * 3 = k * 3 + 1 + 1 + 1 by omega]
  exact (((h.set (by omega) h0).set (by simp; omega) h1).set (by simp; omega) h2)

/-- Its texts are no longer than a text can be. -/
def promiseFit (L : List Promise) : Prop := ∀ i, i < L.length → (promiseAt L i).name.size ≤ maxLen

def szI (n : Int) (k : Nat) : Int := if n < k then -1 else n - k
theorem szI_lo {n : Int} {k : Nat} (h : n < k) : szI n k = -1 := if_pos h
theorem szI_le (n : Int) (k : Nat) (h : n ≤ 1048576) : szI n k ≤ 1048576 := by unfold szI; split <;> omega
theorem szI_hi {n : Int} {k : Nat} (h : ¬ n < k) : szI n k = n - k := if_neg h
set_option maxHeartbeats 400000 in
theorem szPromise_any (j : Promise) (n : Int) (w : World) (hs : j.name.size ≤ maxLen) (h0 : 0 ≤ n) (h1 : n ≤ 1048576) :
    Calls Try.prog 32 #[.agg #[.string (j).name, .int .i64 (j).day, .int .i64 (j).min], .int .i64 n] w fun e w' => e = .returned (.int .i64 (szI n j.name.size)) ∧ Below w.heap.size w w' := by
  unfold maxLen at hs
  by_cases h : n < j.name.size
  · have H := Lib.hid (szI_lo h)
    go_enter Try.func32, Try.ntmps32
    go_wp2
    go_ret
    exact ⟨retI H.out.symm, (Below.refl _ _).alloc (Nat.le_refl _) _⟩
  · have H := Lib.hid (szI_hi h)
    go_enter Try.func32, Try.ntmps32
    go_wp2
    go_ret
    exact ⟨retI H.out.symm, (Below.refl _ _).alloc (Nat.le_refl _) _⟩

set_option maxHeartbeats 400000 in
theorem szPromiseS_any (L : List Promise) (v : Value) (n : Int) (w : World) (hv : Sl w 3 v L.length (promiseRow L)) (hs : promiseFit L) (h0 : 0 ≤ n) (h1 : n ≤ 1048576) :
    Calls Try.prog 15 #[v, .int .i64 n] w (SzPost L.length w) := by
  obtain ⟨A, c, rfl, hl, hc, hr⟩ := hv
  unfold maxLen at hc
  have Hr := Lib.hid hr
  have Hs := Lib.hid hs
  clear hr hs
  by_cases hn : n < L.length
  · go_enter Try.func15, Try.ntmps15
    go_wp2
    go_ret
    exact ⟨-1, rfl, by omega, by omega, Below.refl _ _⟩
  · go_enter Try.func15, Try.ntmps15
    go_wp2
    go_loopw [1, 5] (fun v i wr => ∃ (k : Nat) (m : Int), k ≤ L.length ∧ i = .int .i64 k ∧ 0 ≤ m ∧ m ≤ 1048576 ∧ v = .int .i64 m ∧ Below w.heap.size w wr) (fun _ i _ => L.length - (intOf i).toNat)
    case atStart => exact ⟨0, _, Nat.zero_le _, rfl, by omega, by omega, rfl, Below.refl _ _⟩
    case round =>
      obtain ⟨k, m, hk, rfl, hm0, hm1, rfl, hb⟩ := hrel
      by_cases hlt : k < L.length
      · obtain ⟨g, o, rfl, hg, c0, c1, c2⟩ := (Hr.out.below hb (Nat.le_refl _)).promise hlt
        have hsz := hb.size
        by_cases hm : m < (promiseAt L k).name.size
        · go_wp2_with fail
          refine (szPromise_any (promiseAt L k) m _ (Hs.out k hlt) hm0 hm1).mono ?_
          rw [szI_lo (by omega)]
          rintro e w1 ⟨rfl, hb1⟩
          go_wp2
          go_ret
          exact ⟨-1, rfl, by omega, by omega, hb.trans (hb1.mono hsz)⟩
        · go_wp2_with fail
          refine (szPromise_any (promiseAt L k) m _ (Hs.out k hlt) hm0 hm1).mono ?_
          rw [szI_hi (by omega)]
          rintro e w1 ⟨rfl, hb1⟩
          go_wp2
          go_roundw
          case rel => exact ⟨k + 1, _, by omega, by go_num, by omega, by omega, rfl, hb.trans (hb1.mono hsz)⟩
          case measure => simp [intOf]; omega
      · go_wp2
        go_ret
        exact ⟨m, rfl, by omega, by omega, hb⟩

set_option maxHeartbeats 400000 in
theorem toPromise_any (j : Promise) (w : World) :
    Calls Try.prog 34 #[.agg #[.string (j).name, .int .i64 (j).day, .int .i64 (j).min]] w fun e w' => e = .returned (.agg #[.string (j).name, .int .i64 (j).day, .int .i64 (j).min]) ∧ Below w.heap.size w w' := by
  go_enter Try.func34, Try.ntmps34
  go_wp2
  refine bodyPost_ret (v := .agg #[.string (j).name, .int .i64 (j).day, .int .i64 (j).min]) (by simp [results, Try.results34, go_sem]) rfl ⟨rfl, ?_⟩
  exact (((Below.refl _ _).alloc (by simp) _).alloc (by simp) _).alloc (by simp; omega) _

theorem Try.infoPromise : (Try.prog.info? 43).map (fun i => (i.zero, i.size, i.bytes)) = some (some (.agg #[.string ⟨#[]⟩, .int .i64 0, .int .i64 0]), 3, 32) := by kernel_rfl

set_option maxHeartbeats 400000 in
theorem toPromiseS_any (L : List Promise) (v : Value) (w : World) (hv : Sl w 3 v L.length (promiseRow L)) (hn : L.length ≤ 1048576) :
    Calls Try.prog 17 #[v] w (Gives w.heap.size 43 3 L.length (promiseRow L) w) := by
  obtain ⟨A, c, rfl, hl, hc, hr⟩ := hv
  have Hr := Lib.hid hr
  clear hr hl hc
  obtain ⟨i0, hi, hz0, hz1, hz2⟩ := info_parts Try.infoPromise
  go_enter Try.func17, Try.ntmps17
  go_wp2_with (at_make; refine wpList_make_full _ rfl _ _ 25 rfl w.heap.size 43 i0 _ 3 Try.underlying25 hi hz0 hz1 _ _ _ _ L.length rfl rfl rfl rfl ?b1 ?b2 ?b3 ?_)
  case b1 => rw [hz2]; omega
  case b2 => unfold maxLen; omega
  case b3 => exact Nat.le_refl _
  intro w1 hown hgr
  have hb1 := (Below.refl w.heap.size w).grown hgr (Nat.le_refl _) (fun _ h => by cases h)
  clear hgr
  go_wp2
  go_loopw [4] (fun i wr => ∃ (k : Nat) (xs : List Value), k ≤ L.length ∧ i = .int .i64 k ∧ wr.ownsRow w.heap.size 43 3 (.slice (some ⟨w.heap.size, 0, none⟩) L.length L.length) L.length xs ∧ Pre xs (promiseRow L) (k * 3) ∧ Below w.heap.size w wr)
    (fun i _ => L.length - (intOf i).toNat)
  case atStart => exact ⟨0, _, Nat.zero_le _, rfl, hown, by rw [Nat.zero_mul]; exact Pre.zero _ _, hb1⟩
  case round =>
    obtain ⟨k, xs, hk, rfl, ho, hp, hb⟩ := hrel
    have Ho := Lib.hid ho
    have Hp := Lib.hid hp
    clear ho hp hown
    have hsz := hb.size
    by_cases hlt : k < L.length
    · obtain ⟨g, o, rfl, hg, c0, c1, c2⟩ := (Hr.out.below hb (Nat.le_refl _)).promise hlt
      go_wp2_with fail
      refine (toPromise_any (promiseAt L k) _).mono ?_
      rintro e w2 ⟨rfl, hb2⟩
      have ho2 := own_below Ho.out hb2
      obtain ⟨x0, d0⟩ := own_cell ho2 (j := k * 3) (by omega)
      have f0 := ho2.frozenAt (k * 3)
      obtain ⟨x1, d1⟩ := own_cell ho2 (j := k * 3 + 1) (by omega)
      have f1 := ho2.frozenAt (k * 3 + 1)
      obtain ⟨x2, d2⟩ := own_cell ho2 (j := k * 3 + 2) (by omega)
      have f2 := ho2.frozenAt (k * 3 + 2)
      have Ho2 := Lib.hid ho2
      clear ho2
      go_wp2
      go_roundw
      case rel =>
        obtain ⟨q0, q1, q2⟩ := promiseRow_at L k hlt
        have hlen := Ho2.out.1
        exact ⟨k + 1, _, by omega, by go_num, (((Ho2.out.stored (k * 3) _).1.stored (k * 3 + 1) _).1.stored (k * 3 + 2) _).1, Hp.out.promise (by omega) q0 q1 q2, ((((hb.trans (hb2.mono hsz)).setCell (Nat.le_refl _) _).setCell (Nat.le_refl _) _).setCell (Nat.le_refl _) _)⟩
      case measure => simp [intOf]; omega
    · go_wp2
      go_ret
      have hk2 : k = L.length := by omega
      subst hk2
      refine ⟨_, rfl, ?_, hb⟩
      rw [← Hp.out.all Ho.out.1 (promiseRow_len L)]
      exact Ho.out

set_option maxHeartbeats 400000 in
theorem eqPromise_same (j : Promise) (w : World) :
    Calls Try.prog 63 #[.agg #[.string (j).name, .int .i64 (j).day, .int .i64 (j).min], .agg #[.string (j).name, .int .i64 (j).day, .int .i64 (j).min]] w fun e w' => e = .returned (.bool true) ∧ Below w.heap.size w w' := by
  go_enter Try.func63, Try.ntmps63
  go_wp2
  go_ret
  exact ⟨rfl, ((Below.refl _ _).alloc (by simp) _).alloc (by simp) _⟩

set_option maxHeartbeats 800000 in
theorem eqPromiseS_same (L : List Promise) (v v' : Value) (w : World) (hv : Sl w 3 v L.length (promiseRow L)) (hv' : Sl w 3 v' L.length (promiseRow L)) (hn : L.length ≤ 4194304) :
    Calls Try.prog 19 #[v, v'] w fun e w' => e = .returned (.bool true) ∧ Below w.heap.size w w' := by
  obtain ⟨A, c, rfl, hl, hc, hr⟩ := hv
  obtain ⟨A', c', rfl, hl', hc', hr'⟩ := hv'
  have Hr := Lib.hid hr
  have Hr' := Lib.hid hr'
  clear hr hr' hl hl' hc hc'
  go_enter Try.func19, Try.ntmps19
  go_wp2
  go_loopw [5] (fun i wr => ∃ k : Nat, k ≤ L.length ∧ i = .int .i64 k ∧ Below w.heap.size w wr) (fun i _ => L.length - (intOf i).toNat)
  case atStart => exact ⟨0, Nat.zero_le _, rfl, Below.refl _ _⟩
  case round =>
    obtain ⟨k, hk, rfl, hb⟩ := hrel
    have hsz := hb.size
    by_cases hlt : k < L.length
    · obtain ⟨g, o, rfl, hg, c0, c1, c2⟩ := (Hr.out.below hb (Nat.le_refl _)).promise hlt
      obtain ⟨g', o', rfl, hg', c0', c1', c2'⟩ := (Hr'.out.below hb (Nat.le_refl _)).promise hlt
      have i0 : (0 : Int) ≤ (k : Int) := Int.natCast_nonneg _
      have i1 : (k : Int) < (L.length : Int) := by omega
      go_wp2_with fail
      go_region_held3 (fun w' => w'.cell? ⟨g, o + k * 3, none⟩ = some (.string (promiseAt L k).name) ∧ w'.cell? ⟨g, o + k * 3 + 1, none⟩ = some (.int .i64 (promiseAt L k).day) ∧ w'.cell? ⟨g, o + k * 3 + 2, none⟩ = some (.int .i64 (promiseAt L k).min) ∧ w'.cell? ⟨g', o' + k * 3, none⟩ = some (.string (promiseAt L k).name) ∧ w'.cell? ⟨g', o' + k * 3 + 1, none⟩ = some (.int .i64 (promiseAt L k).day) ∧ w'.cell? ⟨g', o' + k * 3 + 2, none⟩ = some (.int .i64 (promiseAt L k).min))
        (first | (go_split_ands; refine ⟨?_, ?_, ?_, ?_, ?_, ?_⟩ <;> (rw [hb2.cell (by simp; omega)]; assumption)) | go_keep) ((go_at_call 63; refine (eqPromise_same (promiseAt L k) _).mono ?_; rintro e w2 ⟨rfl, hb2⟩))
      go_wp2
      go_roundw
      case rel => exact ⟨k + 1, by omega, by go_num, hb.drew.trans (hb2.mono hsz)⟩
      case measure => simp [intOf]; omega
    · go_wp2
      go_ret
      exact ⟨rfl, hb⟩

/-- Marks from k on. -/
def promiseMk (k n : Nat) : List Promise := (List.range n).map fun i => ⟨markS (k + 3 * i), ((k + 3 * i + 1 : Nat) : Int), ((k + 3 * i + 2 : Nat) : Int)⟩
theorem promiseMk_len (k n : Nat) : (promiseMk k n).length = n := by simp [promiseMk]
theorem promiseMk_at (k n i : Nat) (h : i < n) : promiseAt (promiseMk k n) i = ⟨markS (k + 3 * i), ((k + 3 * i + 1 : Nat) : Int), ((k + 3 * i + 2 : Nat) : Int)⟩ := by
  simp [promiseAt, promiseMk, List.getD, h]
theorem promiseMk_row (k n i : Nat) (h : i < n) : (promiseRow (promiseMk k n))[i * 3]? = some (.string (markS (k + 3 * i))) ∧ (promiseRow (promiseMk k n))[i * 3 + 1]? = some (.int .i64 ((k + 3 * i + 1 : Nat) : Int)) ∧ (promiseRow (promiseMk k n))[i * 3 + 2]? = some (.int .i64 ((k + 3 * i + 2 : Nat) : Int)) := by
  have := promiseRow_at (promiseMk k n) i (by rw [promiseMk_len]; exact h)
  rw [promiseMk_at _ _ _ h] at this
  exact this

set_option maxHeartbeats 800000 in
theorem markPromiseS_any (base n k : Nat) (v : Value) (xs : List Value) (w : World) (ho : w.ownsRow base 43 3 v n xs) (hk1 : 1 ≤ k) (hk2 : k ≤ 1073741824) (hn : n ≤ 4194304) :
    Calls Try.prog 26 #[v, .int .i64 k] w (MarkPost base 43 3 v n (promiseRow (promiseMk k n)) (k + 3 * n) w) := by
  obtain ⟨A, c, rfl, _, _⟩ := own_slice ho
  have Ho := Lib.hid ho
  clear ho
  go_enter Try.func26, Try.ntmps26
  go_wp2
  go_loopw [1, 5] (fun v i wr => ∃ (m q : Nat) (ys : List Value), m = k + 3 * q ∧ q ≤ n ∧ v = .int .i64 m ∧ i = .int .i64 q ∧ wr.ownsRow base 43 3 (.slice A n c) n ys ∧ Pre ys (promiseRow (promiseMk k n)) (q * 3) ∧ w.grownBy wr (Value.slice A n c).ownBlock)
    (fun _ i _ => n - (intOf i).toNat)
  case atStart => exact ⟨k, 0, xs, by omega, Nat.zero_le _, rfl, rfl, Ho.out, by rw [Nat.zero_mul]; exact Pre.zero _ _, gb_refl _ _⟩
  case round =>
    obtain ⟨m, q, ys, hm, hq, rfl, rfl, h1, hp, hg⟩ := hrel
    have hm1 : 1 ≤ m := by omega
    have hm2 : m ≤ 1099511627776 := by omega
    have Hm := Lib.hid hm
    have H1 := Lib.hid h1
    have Hp := Lib.hid hp
    have Hg := Lib.hid hg
    clear hm h1 hp hg
    by_cases hlt : q < n
    · obtain ⟨g, cc, hv, hb0, hglt⟩ := own_form H1.out (by omega)
      injection hv with hA hn' hc'
      subst hA
      clear hc' hn' cc
      go_wp2_with fail
      refine (markText_any m _ hm1 hm2).mono ?_
      rintro e w2 ⟨rfl, hb2⟩
      have ho2 := own_below H1.out hb2
      obtain ⟨x0, d0⟩ := own_cell ho2 (j := q * 3) (by omega)
      have f0 := ho2.frozenAt (q * 3)
      obtain ⟨x1, d1⟩ := own_cell ho2 (j := q * 3 + 1) (by omega)
      have f1 := ho2.frozenAt (q * 3 + 1)
      obtain ⟨x2, d2⟩ := own_cell ho2 (j := q * 3 + 2) (by omega)
      have f2 := ho2.frozenAt (q * 3 + 2)
      have Ho2 := Lib.hid ho2
      clear ho2
      go_wp2
      go_roundw
      case rel =>
        obtain ⟨r0, r1, r2⟩ := promiseMk_row k n q hlt
        have e0 := Hm.out
        subst e0
        have hlen := Ho2.out.1
        obtain ⟨s0, t0⟩ := Ho2.out.stored (q * 3) (.string (markS (k + 3 * q)))
        obtain ⟨s1, t1⟩ := s0.stored (q * 3 + 1) (.int .i64 ((k + 3 * q + 1 : Nat) : Int))
        obtain ⟨s2, t2⟩ := s1.stored (q * 3 + 2) (.int .i64 ((k + 3 * q + 2 : Nat) : Int))
        exact ⟨k + 3 * q + 3, q + 1, _, by omega, by omega, by go_num, by go_num, s2, Hp.out.promise (by omega) r0 r1 r2, (gb_trans (gb_trans (gb_trans (gb_below Hg.out hb2) t0) t1) t2)⟩
      case measure => simp [intOf]; omega
    · go_wp2
      go_ret
      have hq2 : q = n := by omega
      subst hq2
      have e0 := Hm.out
      subst e0
      refine ⟨_, rfl, rfl, ?_, Hg.out⟩
      rw [← Hp.out.all H1.out.1 (by rw [promiseRow_len, promiseMk_len])]
      exact H1.out

set_option maxHeartbeats 800000 in
theorem heldPromiseS_any (n k : Nat) (v : Value) (w : World) (hv : Sl w 3 v n (promiseRow (promiseMk k n))) (hk1 : 1 ≤ k) (hk2 : k ≤ 1073741824) (hn : n ≤ 4194304) :
    Calls Try.prog 27 #[v, .int .i64 k] w (HeldPost (k + 3 * n) w) := by
  obtain ⟨A, c, rfl, _, _, hr⟩ := hv
  have Hr := Lib.hid hr
  clear hr
  go_enter Try.func27, Try.ntmps27
  go_wp2
  go_loopw [1, 5] (fun v i wr => ∃ (m q : Nat), m = k + 3 * q ∧ q ≤ n ∧ v = .int .i64 m ∧ i = .int .i64 q ∧ Below w.heap.size w wr) (fun _ i _ => n - (intOf i).toNat)
  case atStart => exact ⟨k, 0, by omega, Nat.zero_le _, rfl, rfl, Below.refl _ _⟩
  case round =>
    obtain ⟨m, q, hm, hq, rfl, rfl, hb⟩ := hrel
    have hsz := hb.size
    have hm1 : 1 ≤ m := by omega
    have hm2 : m ≤ 1099511627776 := by omega
    by_cases hlt : q < n
    · have hj := (Rd.promise (L := promiseMk k n) (by rw [promiseMk_len]; exact (Hr.out.below hb (Nat.le_refl _))) (k := q) (by rw [promiseMk_len]; exact hlt))
      rw [promiseMk_at _ _ _ hlt, ← hm] at hj
      obtain ⟨g, o, rfl, hg, c0, c1, c2⟩ := hj
      have Hm := Lib.hid hm
      clear hm
      have i0 : (0 : Int) ≤ (q : Int) := Int.natCast_nonneg _
      have i1 : (q : Int) < (n : Int) := by omega
      go_wp2_with fail
      go_region_held3 (fun w' => w'.cell? ⟨g, o + q * 3, none⟩ = some (.string (markS (m))) ∧ w'.cell? ⟨g, o + q * 3 + 1, none⟩ = some (.int .i64 ((m + 1 : Nat) : Int)) ∧ w'.cell? ⟨g, o + q * 3 + 2, none⟩ = some (.int .i64 ((m + 2 : Nat) : Int)))
        (first | (go_split_ands; refine ⟨?_, ?_, ?_⟩ <;> (rw [hb2.cell (by simp; omega)]; assumption)) | go_keep) ((go_at_call 68; refine (markText_any m _ hm1 hm2).mono ?_; rintro e w2 ⟨rfl, hb2⟩))
      go_split_ands
      go_wp2
      go_roundw
      case rel => exact ⟨m + 3, q + 1, by have := Hm.out; omega, by omega, by go_num, by go_num, hb.drew.trans (hb2.mono hsz)⟩
      case measure => simp [intOf]; omega
    · go_wp2
      go_ret
      have hq2 : q = n := by omega
      subst hq2
      subst hm
      exact ⟨_, rfl, rfl, hb⟩

theorem open_promises {H : Type} {enc : TypeId × Value → H} {w : World} {r : Reach} {b : Nat} {v : Value} {d : DataW H} {p : List MemPlace} (hv : Value.okWide Try.prog w r b 22 v)
    (h : DataW.Trod enc Try.prog w 0 (fun _ => true) true 22 v d p) :
    ∃ L : List Promise, Sl w 3 v L.length (promiseRow L) ∧ promiseFit L := by
  rcases open_structs Try.underlying22 Try.underlying40 (by kernel_rfl) (by kernel_rfl) (okWide_slice Try.underlying22 hv) h with rfl | ⟨a, len, cap, rfl, hl, hc, hf⟩
  · exact ⟨[], Sl.nil, fun i h => absurd h (by simp)⟩
  · have hg : ∀ i, i < len → ∃ j : Promise, w.cell? (a.add (i * 3 + 0)) = some (.string (j).name) ∧ w.cell? (a.add (i * 3 + 1)) = some (.int .i64 (j).day) ∧ w.cell? (a.add (i * 3 + 2)) = some (.int .i64 (j).min) ∧ j.name.size ≤ maxLen := by
      intro i hi
      obtain ⟨u0, f0⟩ := hf i hi 0 _ rfl
      obtain ⟨u1, f1⟩ := hf i hi 1 _ rfl
      obtain ⟨u2, f2⟩ := hf i hi 2 _ rfl
      obtain ⟨y0, rfl, z0⟩ := f0.str Try.underlying9
      obtain ⟨y1, rfl, z1⟩ := f1.int Try.underlying2
      obtain ⟨y2, rfl, z2⟩ := f2.int Try.underlying2
      exact ⟨⟨y0, y1, y2⟩, f0.1, f1.1, f2.1, z0⟩
    obtain ⟨J, hJ⟩ := choose_lt hg
    refine ⟨(List.range len).map J, ⟨some a, cap, by simp, by simpa using hl, hc, by rw [promiseRow_len], fun hn => ?_⟩, fun i hi => ?_⟩
    · have hn' : 0 < len := by simpa using hn
      obtain ⟨u0, f0⟩ := hf 0 hn' 0 _ rfl
      obtain ⟨g, o, rfl, hgl⟩ := f0.plain
      refine ⟨g, o, rfl, hgl, fun j u hu => ?_⟩
      have hj : j < ((List.range len).map J).length * 3 := by rw [← promiseRow_len]; exact (List.getElem?_eq_some_iff.1 hu).1
      have hj' : j / 3 < len := by simp at hj; omega
      have ha : promiseAt ((List.range len).map J) (j / 3) = J (j / 3) := by simp [promiseAt, List.getD, hj']
      obtain ⟨q0, q1, q2⟩ := promiseRow_at ((List.range len).map J) (j / 3) (by simpa using hj')
      obtain ⟨c0, c1, c2, _⟩ := hJ (j / 3) hj'
      rw [ha] at q0 q1 q2
      rw [addr_add] at c0 c1 c2
      have hcase : j = j / 3 * 3 ∨ j = j / 3 * 3 + 1 ∨ j = j / 3 * 3 + 2 := by omega
      rcases hcase with e | e | e
      · rw [e] at hu ⊢; rw [q0] at hu; cases hu; exact c0
      · rw [e] at hu ⊢; rw [q1] at hu; cases hu; exact c1
      · rw [e] at hu ⊢; rw [q2] at hu; cases hu; exact c2
    · have hi' : i < len := by simpa using hi
      have ha : promiseAt ((List.range len).map J) i = J i := by simp [promiseAt, List.getD, hi']
      rw [ha]; exact (hJ i hi').2.2.2

theorem open_promiseV {H : Type} {enc : TypeId × Value → H} {w : World} {r : Reach} {b : Nat} {v : Value} {d : DataW H} {p : List MemPlace} (hv : Value.okWide Try.prog w r b 40 v)
    (h : DataW.Trod enc Try.prog w 0 (fun _ => true) true 40 v d p) : ∃ j : Promise, v = .agg #[.string (j).name, .int .i64 (j).day, .int .i64 (j).min] ∧ j.name.size ≤ maxLen := by
  obtain ⟨c0, c1, c2, y0, y1, y2, m, rfl, _, _, h0, h1, h2⟩ := Joins.open_agg3 Try.underlying40 (by kernel_rfl) (by kernel_rfl) hv h
  obtain ⟨s, e0, _, hs⟩ := DataW.trod_string Try.underlying9 h0
  obtain ⟨x, e1, _, _⟩ := DataW.trod_int Try.underlying2 h1
  obtain ⟨y, e2, _, _⟩ := DataW.trod_int Try.underlying2 h2
  simp at e0 e1 e2
  subst e0 e1 e2
  exact ⟨⟨s, x, y⟩, rfl, hs⟩

end Go.Proofs.Ytgafjchbfbpmmaa
