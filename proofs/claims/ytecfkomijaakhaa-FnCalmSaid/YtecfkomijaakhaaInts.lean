/- The lists of numbers: their cells; the walks of the laws' own small functions on them (to, eq, mark, held). Printed by gen.py. -/
import Derived.Test.YtecfkomijaakhaaOpen
import Derived.StillTactics
import Derived.Laws.Pointers
import Derived.Deep.RegionHeld3
namespace Go.Proofs.Ytecfkomijaakhaa
open Go.ChangeShapes Go.WideShapes Go.ChangeAt Go.RowKit Go.Deep

/-- The cells of a list of numbers. -/
def intsRow (l : List Int) : List Value := l.map fun x => .int .i64 x
/-- The i-th. -/
def intsAt (l : List Int) (i : Nat) : Int := l.getD i 0
theorem intsRow_len (l : List Int) : (intsRow l).length = l.length := by simp [intsRow]
theorem intsRow_len1 (l : List Int) : (intsRow l).length = l.length * 1 := by simp [intsRow]
theorem intsRow_append (l m : List Int) : intsRow (l ++ m) = intsRow l ++ intsRow m := by simp [intsRow]
theorem intsAt_lt {l : List Int} {i : Nat} (h : i < l.length) : intsAt l i = l[i] := by simp [intsAt, List.getD, h]
theorem intsAt_append_lt {l m : List Int} {i : Nat} (h : i < l.length) : intsAt (l ++ m) i = intsAt l i := by simp [intsAt, List.getD, h, List.getElem?_append_left]
theorem intsRow_at (l : List Int) (i : Nat) (h : i < l.length) : (intsRow l)[i]? = some (.int .i64 (intsAt l i)) := by simp [intsRow, intsAt, List.getD, h]
theorem ints_ext {l m : List Int} (hl : l.length = m.length) (h : ∀ i, i < l.length → intsAt l i = intsAt m i) : l = m := by
  refine List.ext_getElem hl fun i h1 h2 => ?_
  have := h i h1
  rwa [intsAt_lt h1, intsAt_lt h2] at this
theorem Rd.ints {w : World} {B : Nat} {A : Option Addr} {l : List Int} (h : Rd w B 1 A l.length (intsRow l)) {k : Nat} (hk : k < l.length) :
    ∃ g o, A = some ⟨g, o, none⟩ ∧ g < B ∧ w.cell? ⟨g, o + k, none⟩ = some (.int .i64 (intsAt l k)) := by
  obtain ⟨g, o, e, hg, hc⟩ := h.2 (by omega)
  exact ⟨g, o, e, hg, hc _ _ (intsRow_at l k hk)⟩
theorem intsRow_one (l : List Int) : ∀ u ∈ intsRow l, u.oneCell' = true := by
  intro u hu
  obtain ⟨j, _, rfl⟩ := List.mem_map.1 hu
  rfl
theorem intsRow_take (l : List Int) (k : Nat) : intsRow (l.take k) = (intsRow l).take (k * 1) := by simp [intsRow, List.map_take]
theorem intsRow_drop (l : List Int) (k : Nat) : intsRow (l.drop k) = (intsRow l).drop (k * 1) := by simp [intsRow, List.map_drop]
theorem intsAt_set {l : List Int} {i j : Nat} {x : Int} (h : i < l.length) : intsAt (l.set i x) j = if j = i then x else intsAt l j := by
  by_cases e : j = i
  · subst e; simp [intsAt, List.getD, h]
  · simp [intsAt, List.getD, List.getElem?_set_ne (Ne.symm e), e]
theorem intsRow_set (l : List Int) (i : Nat) (x : Int) : (intsRow l).set i (.int .i64 x) = intsRow (l.set i x) := by simp [intsRow, List.map_set]

theorem Try.info_ints : (Try.prog.info? 2).map (fun i => (i.zero, i.size, i.bytes)) = some (some (.int .i64 0), 1, 8) := by kernel_rfl

set_option maxHeartbeats 400000 in
theorem toInts_any (l : List Int) (v : Value) (w : World) (hv : Sl w 1 v l.length (intsRow l)) (hn : l.length ≤ 1048576) :
    Calls Try.prog 22 #[v] w (Gives w.heap.size 2 1 l.length (intsRow l) w) := by
  obtain ⟨A, c, rfl, hl, hc, hr⟩ := hv
  have Hr := Lib.hid hr
  clear hr hl hc
  obtain ⟨i0, hi, hz0, hz1, hz2⟩ := info_parts Try.info_ints
  go_enter Try.func22, Try.ntmps22
  go_wp2_with (at_make; refine wpList_make_full _ rfl _ _ 29 rfl w.heap.size 2 i0 _ 1 Try.underlying29 hi hz0 hz1 _ _ _ _ l.length rfl rfl rfl rfl ?b1 ?b2 ?b3 ?_)
  case b1 => rw [hz2]; omega
  case b2 => unfold maxLen; omega
  case b3 => exact Nat.le_refl _
  intro w1 hown hgr
  have hb1 := (Below.refl w.heap.size w).grown hgr (Nat.le_refl _) (fun _ h => by cases h)
  clear hgr
  go_wp2
  go_loopw [4] (fun i wr => ∃ (k : Nat) (xs : List Value), k ≤ l.length ∧ i = .int .i64 k ∧ wr.ownsRow w.heap.size 2 1 (.slice (some ⟨w.heap.size, 0, none⟩) l.length l.length) l.length xs ∧ Pre xs (intsRow l) k ∧ Below w.heap.size w wr)
    (fun i _ => l.length - (intOf i).toNat)
  case atStart => exact ⟨0, _, Nat.zero_le _, rfl, hown, Pre.zero _ _, hb1⟩
  case round =>
    obtain ⟨k, xs, hk, rfl, ho, hp, hb⟩ := hrel
    have Hp := Lib.hid hp
    clear hp hown
    have hsz := hb.size
    by_cases hlt : k < l.length
    · obtain ⟨g, o, rfl, hg, c0⟩ := (Hr.out.below hb (Nat.le_refl _)).ints hlt
      obtain ⟨x0, d0⟩ := own_cell ho (j := k) (by omega)
      have f0 := ho.frozenAt k
      have Ho := Lib.hid ho
      clear ho
      go_wp2
      go_roundw
      case rel =>
        have hlen := Ho.out.1
        exact ⟨k + 1, _, by omega, by go_num, (Ho.out.stored k _).1, Hp.out.set (by omega) (intsRow_at l k hlt), hb.setCell (Nat.le_refl _) _⟩
      case measure => simp [intOf]; omega
    · have Ho := Lib.hid ho
      clear ho
      go_wp2
      go_ret
      have hk2 : k = l.length := by omega
      subst hk2
      refine ⟨_, rfl, ?_, hb⟩
      rw [← Hp.out.all (by rw [Ho.out.1]; omega) (intsRow_len l)]
      exact Ho.out

set_option maxHeartbeats 400000 in
theorem eqInts_same (l : List Int) (v v' : Value) (w : World) (hv : Sl w 1 v l.length (intsRow l)) (hv' : Sl w 1 v' l.length (intsRow l)) (hn : l.length ≤ 4194304) :
    Calls Try.prog 24 #[v, v'] w fun e w' => e = .returned (.bool true) ∧ Below w.heap.size w w' := by
  obtain ⟨A, c, rfl, hl, hc, hr⟩ := hv
  obtain ⟨A', c', rfl, hl', hc', hr'⟩ := hv'
  have Hr := Lib.hid hr
  have Hr' := Lib.hid hr'
  clear hr hr' hl hl' hc hc'
  go_enter Try.func24, Try.ntmps24
  go_wp2
  go_loopw [5] (fun i wr => ∃ k : Nat, k ≤ l.length ∧ i = .int .i64 k ∧ Below w.heap.size w wr) (fun i _ => l.length - (intOf i).toNat)
  case atStart => exact ⟨0, Nat.zero_le _, rfl, Below.refl _ _⟩
  case round =>
    obtain ⟨k, hk, rfl, hb⟩ := hrel
    by_cases hlt : k < l.length
    · obtain ⟨g, o, rfl, hg, c0⟩ := (Hr.out.below hb (Nat.le_refl _)).ints hlt
      obtain ⟨g', o', rfl, hg', c0'⟩ := (Hr'.out.below hb (Nat.le_refl _)).ints hlt
      have i0 : (0 : Int) ≤ (k : Int) := Int.natCast_nonneg _
      have i1 : (k : Int) < (l.length : Int) := by omega
      go_wp2
      go_quiet (fail)
      go_wp2
      go_roundw
      case rel => exact ⟨k + 1, by omega, by go_num, below_drewN hb _⟩
      case measure => simp [intOf]; omega
    · go_wp2
      go_ret
      exact ⟨rfl, hb⟩

/-- Marks from k on. -/
def intsMk (k n : Nat) : List Int := (List.range n).map fun i => ((k + i : Nat) : Int)
theorem intsMk_len (k n : Nat) : (intsMk k n).length = n := by simp [intsMk]
theorem intsMk_at (k n i : Nat) (h : i < n) : intsAt (intsMk k n) i = ((k + i : Nat) : Int) := by simp [intsAt, intsMk, List.getD, h]

set_option maxHeartbeats 400000 in
theorem markInts_any (base n k : Nat) (v : Value) (xs : List Value) (w : World) (ho : w.ownsRow base 2 1 v n xs) (hk1 : 1 ≤ k) (hk2 : k ≤ 1073741824) (hn : n ≤ 4194304) :
    Calls Try.prog 32 #[v, .int .i64 k] w (MarkPost base 2 1 v n (intsRow (intsMk k n)) (k + n) w) := by
  obtain ⟨A, c, rfl, _, _⟩ := own_slice ho
  have Ho := Lib.hid ho
  clear ho
  go_enter Try.func32, Try.ntmps32
  go_wp2
  go_loopw [1, 5] (fun v i wr => ∃ (m q : Nat) (ys : List Value), m = k + q ∧ q ≤ n ∧ v = .int .i64 m ∧ i = .int .i64 q ∧ wr.ownsRow base 2 1 (.slice A n c) n ys ∧ Pre ys (intsRow (intsMk k n)) q ∧ w.grownBy wr (Value.slice A n c).ownBlock)
    (fun _ i _ => n - (intOf i).toNat)
  case atStart => exact ⟨k, 0, xs, by omega, Nat.zero_le _, rfl, rfl, Ho.out, Pre.zero _ _, gb_refl _ _⟩
  case round =>
    obtain ⟨m, q, ys, hm, hq, rfl, rfl, h1, hp, hg⟩ := hrel
    have hm1 : 1 ≤ m := by omega
    have hm2 : m ≤ 1099511627776 := by omega
    have Hm := Lib.hid hm
    have H1 := Lib.hid h1
    have Hp := Lib.hid hp
    have Hg := Lib.hid hg
    clear hm h1 hp hg
    by_cases hlt : q < n
    · obtain ⟨g, cc, hv, hb0, hglt⟩ := own_form H1.out (by omega)
      injection hv with hA hn' hc'
      subst hA
      clear hc' hn' cc
      have hb2 := Below.refl wr.heap.size wr
      have ho2 := H1.out
      obtain ⟨x0, d0⟩ := own_cell ho2 (j := q) (by omega)
      have f0 := ho2.frozenAt q
      have Ho2 := Lib.hid ho2
      clear ho2
      go_wp2
      go_roundw
      case rel =>
        have r0 := intsRow_at (intsMk k n) q (by rw [intsMk_len]; exact hlt)
        rw [intsMk_at _ _ _ hlt] at r0
        have e0 := Hm.out
        subst e0
        have hlen := Ho2.out.1
        obtain ⟨s0, t0⟩ := Ho2.out.stored q (.int .i64 (((k + q : Nat) : Int)))
        exact ⟨k + q + 1, q + 1, _, by omega, by omega, by go_num, by go_num, s0, Hp.out.set (by omega) r0, gb_trans (gb_below Hg.out hb2) t0⟩
      case measure => simp [intOf]; omega
    · go_wp2
      go_ret
      have hq2 : q = n := by omega
      subst hq2
      have e0 := Hm.out
      subst e0
      refine ⟨_, rfl, rfl, ?_, Hg.out⟩
      rw [← Hp.out.all (by rw [H1.out.1]; omega) (by rw [intsRow_len, intsMk_len])]
      exact H1.out

set_option maxHeartbeats 400000 in
theorem heldInts_any (n k : Nat) (v : Value) (w : World) (hv : Sl w 1 v n (intsRow (intsMk k n))) (hk1 : 1 ≤ k) (hk2 : k ≤ 1073741824) (hn : n ≤ 4194304) :
    Calls Try.prog 33 #[v, .int .i64 k] w (HeldPost (k + n) w) := by
  obtain ⟨A, c, rfl, _, _, hr⟩ := hv
  have Hr := Lib.hid hr
  clear hr
  go_enter Try.func33, Try.ntmps33
  go_wp2
  go_loopw [1, 5] (fun v i wr => ∃ (m q : Nat), m = k + q ∧ q ≤ n ∧ v = .int .i64 m ∧ i = .int .i64 q ∧ Below w.heap.size w wr) (fun _ i _ => n - (intOf i).toNat)
  case atStart => exact ⟨k, 0, by omega, Nat.zero_le _, rfl, rfl, Below.refl _ _⟩
  case round =>
    obtain ⟨m, q, hm, hq, rfl, rfl, hb⟩ := hrel
    have hsz := hb.size
    have hm1 : 1 ≤ m := by omega
    have hm2 : m ≤ 1099511627776 := by omega
    by_cases hlt : q < n
    · have hj := (Rd.ints (l := intsMk k n) (by rw [intsMk_len]; exact (Hr.out.below hb (Nat.le_refl _))) (k := q) (by rw [intsMk_len]; exact hlt))
      rw [intsMk_at _ _ _ hlt, ← hm] at hj
      obtain ⟨g, o, rfl, hg, c0⟩ := hj
      have Hm := Lib.hid hm
      clear hm
      have i0 : (0 : Int) ≤ (q : Int) := Int.natCast_nonneg _
      have i1 : (q : Int) < (n : Int) := by omega
      go_wp2
      go_roundw
      case rel => exact ⟨m + 1, q + 1, by have := Hm.out; omega, by omega, by go_num, by go_num, hb⟩
      case measure => simp [intOf]; omega
    · go_wp2
      go_ret
      have hq2 : q = n := by omega
      subst hq2
      subst hm
      exact ⟨_, rfl, rfl, hb⟩

theorem open_intl {H : Type} {enc : TypeId × Value → H} {w : World} {r : Reach} {b : Nat} {v : Value} {d : DataW H} {p : List MemPlace} (hv : Value.okWide Try.prog w r b 29 v)
    (h : DataW.Trod enc Try.prog w 0 (fun _ => true) true 29 v d p) : ∃ l : List Int, Sl w 1 v l.length (intsRow l) := by
  obtain ⟨A, n, c, rfl⟩ := okWide_slice Try.underlying29 hv
  obtain ⟨fuel, hf⟩ := h
  rcases open_ints Try.underlying29 Try.underlying2 (by kernel_rfl) hf with ⟨hcs, _⟩ | ⟨a, len, cap, zs, hcs, _, hl, hm, hz, _, hcell, _⟩
  · have hv2 : Value.slice A n c = .slice none 0 0 := by simpa [Value.cells] using hcs
    rw [hv2]; exact ⟨[], Sl.nil⟩
  · have hv2 : Value.slice A n c = .slice (some a) len cap := by simpa [Value.cells] using hcs
    rw [hv2]
    have hz2 : zs.length = cap := by simpa using hz
    have hlen : (zs.take len).length = len := by simp; omega
    refine ⟨zs.take len, some a, cap, by rw [hlen], by omega, hm, by simp [intsRow], fun hn => ?_⟩
    have c0 := hcell 0 (by omega)
    rw [show a.add 0 = a from by simp [Addr.add]] at c0
    have hsp := spot_of_cell c0
    obtain ⟨g, o, sp⟩ := a
    simp only at hsp
    subst hsp
    refine ⟨g, o, rfl, block_lt_cell c0, fun j u hu => ?_⟩
    have hj : j < (zs.take len).length := by rw [← intsRow_len]; exact (List.getElem?_eq_some_iff.1 hu).1
    have hcj := hcell j (by omega)
    rw [addr_add] at hcj
    rw [hcj, ← hu, intsRow_at _ _ hj]
    have hj2 : j < len := by omega
    simp [intsAt, List.getD, List.getElem?_take, hj2]

end Go.Proofs.Ytecfkomijaakhaa
