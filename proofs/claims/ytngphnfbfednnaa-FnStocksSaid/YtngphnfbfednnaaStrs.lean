/- The lists of texts: their cells; the walks of the laws' own small functions on them (to, eq, mark, held). Printed by gen.py. -/
import Derived.Test.YtngphnfbfednnaaMark
import Derived.Test.YtngphnfbfednnaaOpen
import Derived.StillTactics
import Derived.Laws.Pointers
import Derived.Deep.RegionHeld3
namespace Go.Proofs.Ytngphnfbfednnaa
open Go.ChangeShapes Go.WideShapes Go.ChangeAt Go.RowKit Go.Deep

/-- The cells of a list of texts. -/
def strsRow (l : List ByteArray) : List Value := l.map fun x => .string x
/-- The i-th. -/
def strsAt (l : List ByteArray) (i : Nat) : ByteArray := l.getD i ⟨#[]⟩
theorem strsRow_len (l : List ByteArray) : (strsRow l).length = l.length := by simp [strsRow]
theorem strsRow_len1 (l : List ByteArray) : (strsRow l).length = l.length * 1 := by simp [strsRow]
theorem strsRow_append (l m : List ByteArray) : strsRow (l ++ m) = strsRow l ++ strsRow m := by simp [strsRow]
theorem strsAt_lt {l : List ByteArray} {i : Nat} (h : i < l.length) : strsAt l i = l[i] := by simp [strsAt, List.getD, h]
theorem strsAt_append_lt {l m : List ByteArray} {i : Nat} (h : i < l.length) : strsAt (l ++ m) i = strsAt l i := by simp [strsAt, List.getD, h, List.getElem?_append_left]
theorem strsRow_at (l : List ByteArray) (i : Nat) (h : i < l.length) : (strsRow l)[i]? = some (.string (strsAt l i)) := by simp [strsRow, strsAt, List.getD, h]
theorem strs_ext {l m : List ByteArray} (hl : l.length = m.length) (h : ∀ i, i < l.length → strsAt l i = strsAt m i) : l = m := by
  refine List.ext_getElem hl fun i h1 h2 => ?_
  have := h i h1
  rwa [strsAt_lt h1, strsAt_lt h2] at this
theorem Rd.strs {w : World} {B : Nat} {A : Option Addr} {l : List ByteArray} (h : Rd w B 1 A l.length (strsRow l)) {k : Nat} (hk : k < l.length) :
    ∃ g o, A = some ⟨g, o, none⟩ ∧ g < B ∧ w.cell? ⟨g, o + k, none⟩ = some (.string (strsAt l k)) := by
  obtain ⟨g, o, e, hg, hc⟩ := h.2 (by omega)
  exact ⟨g, o, e, hg, hc _ _ (strsRow_at l k hk)⟩
theorem strsRow_one (l : List ByteArray) : ∀ u ∈ strsRow l, u.oneCell' = true := by
  intro u hu
  obtain ⟨j, _, rfl⟩ := List.mem_map.1 hu
  rfl
theorem strsRow_take (l : List ByteArray) (k : Nat) : strsRow (l.take k) = (strsRow l).take (k * 1) := by simp [strsRow, List.map_take]
theorem strsRow_drop (l : List ByteArray) (k : Nat) : strsRow (l.drop k) = (strsRow l).drop (k * 1) := by simp [strsRow, List.map_drop]
theorem strsAt_set {l : List ByteArray} {i j : Nat} {x : ByteArray} (h : i < l.length) : strsAt (l.set i x) j = if j = i then x else strsAt l j := by
  by_cases e : j = i
  · subst e; simp [strsAt, List.getD, h]
  · simp [strsAt, List.getD, List.getElem?_set_ne (Ne.symm e), e]
theorem strsRow_set (l : List ByteArray) (i : Nat) (x : ByteArray) : (strsRow l).set i (.string x) = strsRow (l.set i x) := by simp [strsRow, List.map_set]

theorem Try.info_strs : (Try.prog.info? 9).map (fun i => (i.zero, i.size, i.bytes)) = some (some (.string ⟨#[]⟩), 1, 16) := by kernel_rfl

set_option maxHeartbeats 400000 in
theorem toStrs_any (l : List ByteArray) (v : Value) (w : World) (hv : Sl w 1 v l.length (strsRow l)) (hn : l.length ≤ 1048576) :
    Calls Try.prog 36 #[v] w (Gives w.heap.size 9 1 l.length (strsRow l) w) := by
  obtain ⟨A, c, rfl, hl, hc, hr⟩ := hv
  have Hr := Lib.hid hr
  clear hr hl hc
  obtain ⟨i0, hi, hz0, hz1, hz2⟩ := info_parts Try.info_strs
  go_enter Try.func36, Try.ntmps36
  go_wp2_with (at_make; refine wpList_make_full _ rfl _ _ 38 rfl w.heap.size 9 i0 _ 1 Try.underlying38 hi hz0 hz1 _ _ _ _ l.length rfl rfl rfl rfl ?b1 ?b2 ?b3 ?_)
  case b1 => rw [hz2]; omega
  case b2 => unfold maxLen; omega
  case b3 => exact Nat.le_refl _
  intro w1 hown hgr
  have hb1 := (Below.refl w.heap.size w).grown hgr (Nat.le_refl _) (fun _ h => by cases h)
  clear hgr
  go_wp2
  go_loopw [4] (fun i wr => ∃ (k : Nat) (xs : List Value), k ≤ l.length ∧ i = .int .i64 k ∧ wr.ownsRow w.heap.size 9 1 (.slice (some ⟨w.heap.size, 0, none⟩) l.length l.length) l.length xs ∧ Pre xs (strsRow l) k ∧ Below w.heap.size w wr)
    (fun i _ => l.length - (intOf i).toNat)
  case atStart => exact ⟨0, _, Nat.zero_le _, rfl, hown, Pre.zero _ _, hb1⟩
  case round =>
    obtain ⟨k, xs, hk, rfl, ho, hp, hb⟩ := hrel
    have Hp := Lib.hid hp
    clear hp hown
    have hsz := hb.size
    by_cases hlt : k < l.length
    · obtain ⟨g, o, rfl, hg, c0⟩ := (Hr.out.below hb (Nat.le_refl _)).strs hlt
      obtain ⟨x0, d0⟩ := own_cell ho (j := k) (by omega)
      have f0 := ho.frozenAt k
      have Ho := Lib.hid ho
      clear ho
      go_wp2
      go_roundw
      case rel =>
        have hlen := Ho.out.1
        exact ⟨k + 1, _, by omega, by go_num, (Ho.out.stored k _).1, Hp.out.set (by omega) (strsRow_at l k hlt), hb.setCell (Nat.le_refl _) _⟩
      case measure => simp [intOf]; omega
    · have Ho := Lib.hid ho
      clear ho
      go_wp2
      go_ret
      have hk2 : k = l.length := by omega
      subst hk2
      refine ⟨_, rfl, ?_, hb⟩
      rw [← Hp.out.all (by rw [Ho.out.1]; omega) (strsRow_len l)]
      exact Ho.out

set_option maxHeartbeats 400000 in
theorem eqStrs_same (l : List ByteArray) (v v' : Value) (w : World) (hv : Sl w 1 v l.length (strsRow l)) (hv' : Sl w 1 v' l.length (strsRow l)) (hn : l.length ≤ 4194304) :
    Calls Try.prog 38 #[v, v'] w fun e w' => e = .returned (.bool true) ∧ Below w.heap.size w w' := by
  obtain ⟨A, c, rfl, hl, hc, hr⟩ := hv
  obtain ⟨A', c', rfl, hl', hc', hr'⟩ := hv'
  have Hr := Lib.hid hr
  have Hr' := Lib.hid hr'
  clear hr hr' hl hl' hc hc'
  go_enter Try.func38, Try.ntmps38
  go_wp2
  go_loopw [5] (fun i wr => ∃ k : Nat, k ≤ l.length ∧ i = .int .i64 k ∧ Below w.heap.size w wr) (fun i _ => l.length - (intOf i).toNat)
  case atStart => exact ⟨0, Nat.zero_le _, rfl, Below.refl _ _⟩
  case round =>
    obtain ⟨k, hk, rfl, hb⟩ := hrel
    by_cases hlt : k < l.length
    · obtain ⟨g, o, rfl, hg, c0⟩ := (Hr.out.below hb (Nat.le_refl _)).strs hlt
      obtain ⟨g', o', rfl, hg', c0'⟩ := (Hr'.out.below hb (Nat.le_refl _)).strs hlt
      have i0 : (0 : Int) ≤ (k : Int) := Int.natCast_nonneg _
      have i1 : (k : Int) < (l.length : Int) := by omega
      go_wp2
      go_quiet (fail)
      go_wp2
      go_roundw
      case rel => exact ⟨k + 1, by omega, by go_num, below_drewN hb _⟩
      case measure => simp [intOf]; omega
    · go_wp2
      go_ret
      exact ⟨rfl, hb⟩

/-- Marks from k on. -/
def strsMk (k n : Nat) : List ByteArray := (List.range n).map fun i => markS (k + i)
theorem strsMk_len (k n : Nat) : (strsMk k n).length = n := by simp [strsMk]
theorem strsMk_at (k n i : Nat) (h : i < n) : strsAt (strsMk k n) i = markS (k + i) := by simp [strsAt, strsMk, List.getD, h]

set_option maxHeartbeats 400000 in
theorem markStrs_any (base n k : Nat) (v : Value) (xs : List Value) (w : World) (ho : w.ownsRow base 9 1 v n xs) (hk1 : 1 ≤ k) (hk2 : k ≤ 1073741824) (hn : n ≤ 4194304) :
    Calls Try.prog 39 #[v, .int .i64 k] w (MarkPost base 9 1 v n (strsRow (strsMk k n)) (k + n) w) := by
  obtain ⟨A, c, rfl, _, _⟩ := own_slice ho
  have Ho := Lib.hid ho
  clear ho
  go_enter Try.func39, Try.ntmps39
  go_wp2
  go_loopw [1, 5] (fun v i wr => ∃ (m q : Nat) (ys : List Value), m = k + q ∧ q ≤ n ∧ v = .int .i64 m ∧ i = .int .i64 q ∧ wr.ownsRow base 9 1 (.slice A n c) n ys ∧ Pre ys (strsRow (strsMk k n)) q ∧ w.grownBy wr (Value.slice A n c).ownBlock)
    (fun _ i _ => n - (intOf i).toNat)
  case atStart => exact ⟨k, 0, xs, by omega, Nat.zero_le _, rfl, rfl, Ho.out, Pre.zero _ _, gb_refl _ _⟩
  case round =>
    obtain ⟨m, q, ys, hm, hq, rfl, rfl, h1, hp, hg⟩ := hrel
    have hm1 : 1 ≤ m := by omega
    have hm2 : m ≤ 1099511627776 := by omega
    have Hm := Lib.hid hm
    have H1 := Lib.hid h1
    have Hp := Lib.hid hp
    have Hg := Lib.hid hg
    clear hm h1 hp hg
    by_cases hlt : q < n
    · obtain ⟨g, cc, hv, hb0, hglt⟩ := own_form H1.out (by omega)
      injection hv with hA hn' hc'
      subst hA
      clear hc' hn' cc
      go_wp2_with fail
      refine (markText_any m _ hm1 hm2).mono ?_
      rintro e w2 ⟨rfl, hb2⟩
      have ho2 := own_below H1.out hb2
      obtain ⟨x0, d0⟩ := own_cell ho2 (j := q) (by omega)
      have f0 := ho2.frozenAt q
      have Ho2 := Lib.hid ho2
      clear ho2
      go_wp2
      go_roundw
      case rel =>
        have r0 := strsRow_at (strsMk k n) q (by rw [strsMk_len]; exact hlt)
        rw [strsMk_at _ _ _ hlt] at r0
        have e0 := Hm.out
        subst e0
        have hlen := Ho2.out.1
        obtain ⟨s0, t0⟩ := Ho2.out.stored q (.string (markS (k + q)))
        exact ⟨k + q + 1, q + 1, _, by omega, by omega, by go_num, by go_num, s0, Hp.out.set (by omega) r0, gb_trans (gb_below Hg.out hb2) t0⟩
      case measure => simp [intOf]; omega
    · go_wp2
      go_ret
      have hq2 : q = n := by omega
      subst hq2
      have e0 := Hm.out
      subst e0
      refine ⟨_, rfl, rfl, ?_, Hg.out⟩
      rw [← Hp.out.all (by rw [H1.out.1]; omega) (by rw [strsRow_len, strsMk_len])]
      exact H1.out

set_option maxHeartbeats 400000 in
theorem heldStrs_any (n k : Nat) (v : Value) (w : World) (hv : Sl w 1 v n (strsRow (strsMk k n))) (hk1 : 1 ≤ k) (hk2 : k ≤ 1073741824) (hn : n ≤ 4194304) :
    Calls Try.prog 40 #[v, .int .i64 k] w (HeldPost (k + n) w) := by
  obtain ⟨A, c, rfl, _, _, hr⟩ := hv
  have Hr := Lib.hid hr
  clear hr
  go_enter Try.func40, Try.ntmps40
  go_wp2
  go_loopw [1, 5] (fun v i wr => ∃ (m q : Nat), m = k + q ∧ q ≤ n ∧ v = .int .i64 m ∧ i = .int .i64 q ∧ Below w.heap.size w wr) (fun _ i _ => n - (intOf i).toNat)
  case atStart => exact ⟨k, 0, by omega, Nat.zero_le _, rfl, rfl, Below.refl _ _⟩
  case round =>
    obtain ⟨m, q, hm, hq, rfl, rfl, hb⟩ := hrel
    have hsz := hb.size
    have hm1 : 1 ≤ m := by omega
    have hm2 : m ≤ 1099511627776 := by omega
    by_cases hlt : q < n
    · have hj := (Rd.strs (l := strsMk k n) (by rw [strsMk_len]; exact (Hr.out.below hb (Nat.le_refl _))) (k := q) (by rw [strsMk_len]; exact hlt))
      rw [strsMk_at _ _ _ hlt, ← hm] at hj
      obtain ⟨g, o, rfl, hg, c0⟩ := hj
      have Hm := Lib.hid hm
      clear hm
      have i0 : (0 : Int) ≤ (q : Int) := Int.natCast_nonneg _
      have i1 : (q : Int) < (n : Int) := by omega
      go_wp2_with fail
      go_region_held3 (fun w' => w'.cell? ⟨g, o + q, none⟩ = some (.string (markS m)))
        (first | (rw [hb2.cell (by simp; omega)]; assumption) | go_keep) ((go_at_call 70; refine (markText_any m _ hm1 hm2).mono ?_; rintro e w2 ⟨rfl, hb2⟩))
      go_wp2
      go_roundw
      case rel => exact ⟨m + 1, q + 1, by have := Hm.out; omega, by omega, by go_num, by go_num, hb.drew.trans (hb2.mono hsz)⟩
      case measure => simp [intOf]; omega
    · go_wp2
      go_ret
      have hq2 : q = n := by omega
      subst hq2
      subst hm
      exact ⟨_, rfl, rfl, hb⟩

/-- Its texts are no longer than a text can be. -/
def strsFit (l : List ByteArray) : Prop := ∀ i, i < l.length → (strsAt l i).size ≤ maxLen
theorem open_strl {H : Type} {enc : TypeId × Value → H} {w : World} {r : Reach} {b : Nat} {v : Value} {d : DataW H} {p : List MemPlace} (hv : Value.okWide Try.prog w r b 38 v)
    (h : DataW.Trod enc Try.prog w 0 (fun _ => true) true 38 v d p) : ∃ l : List ByteArray, Sl w 1 v l.length (strsRow l) ∧ strsFit l := by
  obtain ⟨A, n, c, rfl⟩ := okWide_slice Try.underlying38 hv
  obtain ⟨fuel, hf⟩ := h
  rcases open_strings Try.underlying38 Try.underlying9 (by kernel_rfl) hf with ⟨hcs, _⟩ | ⟨a, len, cap, zs, hcs, _, hl, hm, hz, _, hcell, hws⟩
  · have hv2 : Value.slice A n c = .slice none 0 0 := by simpa [Value.cells] using hcs
    rw [hv2]; exact ⟨[], Sl.nil, fun i hi => absurd hi (by simp)⟩
  · have hv2 : Value.slice A n c = .slice (some a) len cap := by simpa [Value.cells] using hcs
    rw [hv2]
    have hz2 : zs.length = cap := by simpa using hz
    have hlen : (zs.take len).length = len := by simp; omega
    refine ⟨zs.take len, ⟨some a, cap, by rw [hlen], by omega, hm, by simp [strsRow], fun hn => ?_⟩, fun i hi => ?_⟩
    · have c0 := hcell 0 (by omega)
      rw [show a.add 0 = a from by simp [Addr.add]] at c0
      have hsp := spot_of_cell c0
      obtain ⟨g, o, sp⟩ := a
      simp only at hsp
      subst hsp
      refine ⟨g, o, rfl, block_lt_cell c0, fun j u hu => ?_⟩
      have hj : j < (zs.take len).length := by rw [← strsRow_len]; exact (List.getElem?_eq_some_iff.1 hu).1
      have hcj := hcell j (by omega)
      rw [addr_add] at hcj
      rw [hcj, ← hu, strsRow_at _ _ hj]
      have hj2 : j < len := by omega
      simp [strsAt, List.getD, List.getElem?_take, hj2, show j < zs.length by omega]
    · have hi2 : i < zs.length := by omega
      have : strsAt (zs.take len) i = zs[i] := by rw [strsAt_lt hi]; simp
      rw [this]
      exact hws _ (List.getElem_mem hi2)

end Go.Proofs.Ytngphnfbfednnaa
