/- The lists of Bin: their cells; the walks of the laws' own small functions on them (sz, to, eq, mark, held); an argument opened. Printed by gen.py. -/
import Derived.Test.YtngphnfbfednnaaMark
import Derived.Test.YtngphnfbfednnaaOpen
import Derived.StillTactics
import Derived.Laws.Pointers
import Derived.Deep.RegionHeld3
import Derived.Lib.SmallJoins
namespace Go.Proofs.Ytngphnfbfednnaa
open Go.ChangeShapes Go.WideShapes Go.ChangeAt Go.RowKit Go.Deep

structure Bin where
  code : ByteArray
  amount : Int
  reserved : Int
  point : Int
  lot : Int
instance : Inhabited Bin := ⟨⟨⟨#[]⟩, 0, 0, 0, 0⟩⟩

/-- The cells of one. -/
def binCells (j : Bin) : List Value := [.string (j).code, .int .i64 (j).amount, .int .i64 (j).reserved, .int .i64 (j).point, .int .i64 (j).lot]
def binRow (L : List Bin) : List Value := L.flatMap binCells
/-- The i-th. -/
def binAt (L : List Bin) (i : Nat) : Bin := L.getD i default

theorem binRow_len (L : List Bin) : (binRow L).length = L.length * 5 := by
  induction L with
  | nil => rfl
  | cons a l ih => simp only [binRow, List.flatMap_cons, List.length_append] at *; rw [ih]; simp [binCells]; omega
theorem binRow_cons (a : Bin) (L : List Bin) : binRow (a :: L) = .string (a).code :: .int .i64 (a).amount :: .int .i64 (a).reserved :: .int .i64 (a).point :: .int .i64 (a).lot :: binRow L := rfl
theorem binRow_append (L M : List Bin) : binRow (L ++ M) = binRow L ++ binRow M := by simp [binRow]
theorem binAt_lt {L : List Bin} {i : Nat} (h : i < L.length) : binAt L i = L[i] := by simp [binAt, List.getD, h]
theorem binAt_append_lt {L M : List Bin} {i : Nat} (h : i < L.length) : binAt (L ++ M) i = binAt L i := by simp [binAt, List.getD, h, List.getElem?_append_left]
theorem binRow_at (L : List Bin) : ∀ i, i < L.length → (binRow L)[i * 5]? = some (.string (binAt L i).code) ∧ (binRow L)[i * 5 + 1]? = some (.int .i64 (binAt L i).amount) ∧ (binRow L)[i * 5 + 2]? = some (.int .i64 (binAt L i).reserved) ∧ (binRow L)[i * 5 + 3]? = some (.int .i64 (binAt L i).point) ∧ (binRow L)[i * 5 + 4]? = some (.int .i64 (binAt L i).lot) := by
  induction L with
  | nil => intro i h; simp at h
  | cons a l ih =>
    intro i h
    cases i with
    | zero => exact ⟨rfl, rfl, rfl, rfl, rfl⟩
    | succ i =>
      have := ih i (by simpa using h)
      rw [binRow_cons, show (i + 1) * 5 = i * 5 + 5 by omega]
      simpa [binAt, List.getD] using this
theorem binCells_one (j : Bin) : ∀ u ∈ binCells j, u.oneCell' = true := by
  intro u hu
  simp only [binCells, List.mem_cons, List.not_mem_nil, or_false] at hu
  rcases hu with rfl | rfl | rfl | rfl | rfl <;> rfl
theorem binRow_one (L : List Bin) : ∀ u ∈ binRow L, u.oneCell' = true := by
  intro u hu
  obtain ⟨j, _, hj⟩ := List.mem_flatMap.1 hu
  exact binCells_one j u hj
theorem binRow_inj {L M : List Bin} (hl : L.length = M.length) (h : ∀ i, i < L.length → binAt L i = binAt M i) : L = M := by
  refine List.ext_getElem hl fun i h1 h2 => ?_
  have := h i h1
  rwa [binAt_lt h1, binAt_lt h2] at this
theorem Rd.bin {w : World} {B : Nat} {A : Option Addr} {L : List Bin} (h : Rd w B 5 A L.length (binRow L)) {k : Nat} (hk : k < L.length) :
    ∃ g o, A = some ⟨g, o, none⟩ ∧ g < B ∧ w.cell? ⟨g, o + k * 5, none⟩ = some (.string (binAt L k).code) ∧ w.cell? ⟨g, o + k * 5 + 1, none⟩ = some (.int .i64 (binAt L k).amount) ∧ w.cell? ⟨g, o + k * 5 + 2, none⟩ = some (.int .i64 (binAt L k).reserved) ∧ w.cell? ⟨g, o + k * 5 + 3, none⟩ = some (.int .i64 (binAt L k).point) ∧ w.cell? ⟨g, o + k * 5 + 4, none⟩ = some (.int .i64 (binAt L k).lot) := by
  obtain ⟨g, o, e, hg, hc⟩ := h.2 (by omega)
  obtain ⟨e0, e1, e2, e3, e4⟩ := binRow_at L k hk
  exact ⟨g, o, e, hg, hc _ _ e0, by rw [Nat.add_assoc]; exact hc _ _ e1, by rw [Nat.add_assoc]; exact hc _ _ e2, by rw [Nat.add_assoc]; exact hc _ _ e3, by rw [Nat.add_assoc]; exact hc _ _ e4⟩
theorem Pre.bin {xs ys : List Value} {k : Nat} {u0 u1 u2 u3 u4 : Value} (h : Pre xs ys (k * 5)) (hm : k * 5 + 4 < xs.length) (h0 : ys[k * 5]? = some u0) (h1 : ys[k * 5 + 1]? = some u1) (h2 : ys[k * 5 + 2]? = some u2) (h3 : ys[k * 5 + 3]? = some u3) (h4 : ys[k * 5 + 4]? = some u4) :
    Pre (((((xs.set (k * 5) u0).set (k * 5 + 1) u1).set (k * 5 + 2) u2).set (k * 5 + 3) u3).set (k * 5 + 4) u4) ys ((k + 1) * 5) := by
  rw [show (k + 1) * 5 = k * 5 + 1 + 1 + 1 + 1 + 1 by omega]
  exact (((((h.set (by omega) h0).set (by simp; omega) h1).set (by simp; omega) h2).set (by simp; omega) h3).set (by simp; omega) h4)

/-- Its texts are no longer than a text can be. -/
def binFit (L : List Bin) : Prop := ∀ i, i < L.length → (binAt L i).code.size ≤ maxLen

def szI (n : Int) (k : Nat) : Int := if n < k then -1 else n - k
theorem szI_lo {n : Int} {k : Nat} (h : n < k) : szI n k = -1 := if_pos h
theorem szI_le (n : Int) (k : Nat) (h : n ≤ 1048576) : szI n k ≤ 1048576 := by unfold szI; split <;> omega
theorem szI_hi {n : Int} {k : Nat} (h : ¬ n < k) : szI n k = n - k := if_neg h
set_option maxHeartbeats 400000 in
theorem szBin_any (j : Bin) (n : Int) (w : World) (hs : j.code.size ≤ maxLen) (h0 : 0 ≤ n) (h1 : n ≤ 1048576) :
    Calls Try.prog 58 #[.agg #[.string (j).code, .int .i64 (j).amount, .int .i64 (j).reserved, .int .i64 (j).point, .int .i64 (j).lot], .int .i64 n] w fun e w' => e = .returned (.int .i64 (szI n j.code.size)) ∧ Below w.heap.size w w' := by
  unfold maxLen at hs
  by_cases h : n < j.code.size
  · have H := Lib.hid (szI_lo h)
    go_enter Try.func58, Try.ntmps58
    go_wp2
    go_ret
    exact ⟨retI H.out.symm, (Below.refl _ _).alloc (Nat.le_refl _) _⟩
  · have H := Lib.hid (szI_hi h)
    go_enter Try.func58, Try.ntmps58
    go_wp2
    go_ret
    exact ⟨retI H.out.symm, (Below.refl _ _).alloc (Nat.le_refl _) _⟩

set_option maxHeartbeats 400000 in
theorem szBinS_any (L : List Bin) (v : Value) (n : Int) (w : World) (hv : Sl w 5 v L.length (binRow L)) (hs : binFit L) (h0 : 0 ≤ n) (h1 : n ≤ 1048576) :
    Calls Try.prog 15 #[v, .int .i64 n] w (SzPost L.length w) := by
  obtain ⟨A, c, rfl, hl, hc, hr⟩ := hv
  unfold maxLen at hc
  have Hr := Lib.hid hr
  have Hs := Lib.hid hs
  clear hr hs
  by_cases hn : n < L.length
  · go_enter Try.func15, Try.ntmps15
    go_wp2
    go_ret
    exact ⟨-1, rfl, by omega, by omega, Below.refl _ _⟩
  · go_enter Try.func15, Try.ntmps15
    go_wp2
    go_loopw [1, 5] (fun v i wr => ∃ (k : Nat) (m : Int), k ≤ L.length ∧ i = .int .i64 k ∧ 0 ≤ m ∧ m ≤ 1048576 ∧ v = .int .i64 m ∧ Below w.heap.size w wr) (fun _ i _ => L.length - (intOf i).toNat)
    case atStart => exact ⟨0, _, Nat.zero_le _, rfl, by omega, by omega, rfl, Below.refl _ _⟩
    case round =>
      obtain ⟨k, m, hk, rfl, hm0, hm1, rfl, hb⟩ := hrel
      by_cases hlt : k < L.length
      · obtain ⟨g, o, rfl, hg, c0, c1, c2, c3, c4⟩ := (Hr.out.below hb (Nat.le_refl _)).bin hlt
        have hsz := hb.size
        by_cases hm : m < (binAt L k).code.size
        · go_wp2_with fail
          refine (szBin_any (binAt L k) m _ (Hs.out k hlt) hm0 hm1).mono ?_
          rw [szI_lo (by omega)]
          rintro e w1 ⟨rfl, hb1⟩
          go_wp2
          go_ret
          exact ⟨-1, rfl, by omega, by omega, hb.trans (hb1.mono hsz)⟩
        · go_wp2_with fail
          refine (szBin_any (binAt L k) m _ (Hs.out k hlt) hm0 hm1).mono ?_
          rw [szI_hi (by omega)]
          rintro e w1 ⟨rfl, hb1⟩
          go_wp2
          go_roundw
          case rel => exact ⟨k + 1, _, by omega, by go_num, by omega, by omega, rfl, hb.trans (hb1.mono hsz)⟩
          case measure => simp [intOf]; omega
      · go_wp2
        go_ret
        exact ⟨m, rfl, by omega, by omega, hb⟩

set_option maxHeartbeats 400000 in
theorem toBin_any (j : Bin) (w : World) :
    Calls Try.prog 61 #[.agg #[.string (j).code, .int .i64 (j).amount, .int .i64 (j).reserved, .int .i64 (j).point, .int .i64 (j).lot]] w fun e w' => e = .returned (.agg #[.string (j).code, .int .i64 (j).amount, .int .i64 (j).reserved, .int .i64 (j).point, .int .i64 (j).lot]) ∧ Below w.heap.size w w' := by
  go_enter Try.func61, Try.ntmps61
  go_wp2
  refine bodyPost_ret (v := .agg #[.string (j).code, .int .i64 (j).amount, .int .i64 (j).reserved, .int .i64 (j).point, .int .i64 (j).lot]) (by simp [results, Try.results61, go_sem]) rfl ⟨rfl, ?_⟩
  exact (((Below.refl _ _).alloc (by simp) _).alloc (by simp) _).alloc (by simp; omega) _

theorem Try.infoBin : (Try.prog.info? 58).map (fun i => (i.zero, i.size, i.bytes)) = some (some (.agg #[.string ⟨#[]⟩, .int .i64 0, .int .i64 0, .int .i64 0, .int .i64 0]), 5, 48) := by kernel_rfl

set_option maxHeartbeats 400000 in
theorem toBinS_any (L : List Bin) (v : Value) (w : World) (hv : Sl w 5 v L.length (binRow L)) (hn : L.length ≤ 1048576) :
    Calls Try.prog 17 #[v] w (Gives w.heap.size 58 5 L.length (binRow L) w) := by
  obtain ⟨A, c, rfl, hl, hc, hr⟩ := hv
  have Hr := Lib.hid hr
  clear hr hl hc
  obtain ⟨i0, hi, hz0, hz1, hz2⟩ := info_parts Try.infoBin
  go_enter Try.func17, Try.ntmps17
  go_wp2_with (at_make; refine wpList_make_full _ rfl _ _ 25 rfl w.heap.size 58 i0 _ 5 Try.underlying25 hi hz0 hz1 _ _ _ _ L.length rfl rfl rfl rfl ?b1 ?b2 ?b3 ?_)
  case b1 => rw [hz2]; omega
  case b2 => unfold maxLen; omega
  case b3 => exact Nat.le_refl _
  intro w1 hown hgr
  have hb1 := (Below.refl w.heap.size w).grown hgr (Nat.le_refl _) (fun _ h => by cases h)
  clear hgr
  go_wp2
  go_loopw [4] (fun i wr => ∃ (k : Nat) (xs : List Value), k ≤ L.length ∧ i = .int .i64 k ∧ wr.ownsRow w.heap.size 58 5 (.slice (some ⟨w.heap.size, 0, none⟩) L.length L.length) L.length xs ∧ Pre xs (binRow L) (k * 5) ∧ Below w.heap.size w wr)
    (fun i _ => L.length - (intOf i).toNat)
  case atStart => exact ⟨0, _, Nat.zero_le _, rfl, hown, by rw [Nat.zero_mul]; exact Pre.zero _ _, hb1⟩
  case round =>
    obtain ⟨k, xs, hk, rfl, ho, hp, hb⟩ := hrel
    have Ho := Lib.hid ho
    have Hp := Lib.hid hp
    clear ho hp hown
    have hsz := hb.size
    by_cases hlt : k < L.length
    · obtain ⟨g, o, rfl, hg, c0, c1, c2, c3, c4⟩ := (Hr.out.below hb (Nat.le_refl _)).bin hlt
      go_wp2_with fail
      refine (toBin_any (binAt L k) _).mono ?_
      rintro e w2 ⟨rfl, hb2⟩
      have ho2 := own_below Ho.out hb2
      obtain ⟨x0, d0⟩ := own_cell ho2 (j := k * 5) (by omega)
      have f0 := ho2.frozenAt (k * 5)
      obtain ⟨x1, d1⟩ := own_cell ho2 (j := k * 5 + 1) (by omega)
      have f1 := ho2.frozenAt (k * 5 + 1)
      obtain ⟨x2, d2⟩ := own_cell ho2 (j := k * 5 + 2) (by omega)
      have f2 := ho2.frozenAt (k * 5 + 2)
      obtain ⟨x3, d3⟩ := own_cell ho2 (j := k * 5 + 3) (by omega)
      have f3 := ho2.frozenAt (k * 5 + 3)
      obtain ⟨x4, d4⟩ := own_cell ho2 (j := k * 5 + 4) (by omega)
      have f4 := ho2.frozenAt (k * 5 + 4)
      have Ho2 := Lib.hid ho2
      clear ho2
      go_wp2
      go_roundw
      case rel =>
        obtain ⟨q0, q1, q2, q3, q4⟩ := binRow_at L k hlt
        have hlen := Ho2.out.1
        exact ⟨k + 1, _, by omega, by go_num, (((((Ho2.out.stored (k * 5) _).1.stored (k * 5 + 1) _).1.stored (k * 5 + 2) _).1.stored (k * 5 + 3) _).1.stored (k * 5 + 4) _).1, Hp.out.bin (by omega) q0 q1 q2 q3 q4, ((((((hb.trans (hb2.mono hsz)).setCell (Nat.le_refl _) _).setCell (Nat.le_refl _) _).setCell (Nat.le_refl _) _).setCell (Nat.le_refl _) _).setCell (Nat.le_refl _) _)⟩
      case measure => simp [intOf]; omega
    · go_wp2
      go_ret
      have hk2 : k = L.length := by omega
      subst hk2
      refine ⟨_, rfl, ?_, hb⟩
      rw [← Hp.out.all Ho.out.1 (binRow_len L)]
      exact Ho.out

set_option maxHeartbeats 400000 in
theorem eqBin_same (j : Bin) (w : World) :
    Calls Try.prog 64 #[.agg #[.string (j).code, .int .i64 (j).amount, .int .i64 (j).reserved, .int .i64 (j).point, .int .i64 (j).lot], .agg #[.string (j).code, .int .i64 (j).amount, .int .i64 (j).reserved, .int .i64 (j).point, .int .i64 (j).lot]] w fun e w' => e = .returned (.bool true) ∧ Below w.heap.size w w' := by
  go_enter Try.func64, Try.ntmps64
  go_wp2
  go_ret
  exact ⟨rfl, ((Below.refl _ _).alloc (by simp) _).alloc (by simp) _⟩

set_option maxHeartbeats 800000 in
theorem eqBinS_same (L : List Bin) (v v' : Value) (w : World) (hv : Sl w 5 v L.length (binRow L)) (hv' : Sl w 5 v' L.length (binRow L)) (hn : L.length ≤ 4194304) :
    Calls Try.prog 19 #[v, v'] w fun e w' => e = .returned (.bool true) ∧ Below w.heap.size w w' := by
  obtain ⟨A, c, rfl, hl, hc, hr⟩ := hv
  obtain ⟨A', c', rfl, hl', hc', hr'⟩ := hv'
  have Hr := Lib.hid hr
  have Hr' := Lib.hid hr'
  clear hr hr' hl hl' hc hc'
  go_enter Try.func19, Try.ntmps19
  go_wp2
  go_loopw [5] (fun i wr => ∃ k : Nat, k ≤ L.length ∧ i = .int .i64 k ∧ Below w.heap.size w wr) (fun i _ => L.length - (intOf i).toNat)
  case atStart => exact ⟨0, Nat.zero_le _, rfl, Below.refl _ _⟩
  case round =>
    obtain ⟨k, hk, rfl, hb⟩ := hrel
    have hsz := hb.size
    by_cases hlt : k < L.length
    · obtain ⟨g, o, rfl, hg, c0, c1, c2, c3, c4⟩ := (Hr.out.below hb (Nat.le_refl _)).bin hlt
      obtain ⟨g', o', rfl, hg', c0', c1', c2', c3', c4'⟩ := (Hr'.out.below hb (Nat.le_refl _)).bin hlt
      have i0 : (0 : Int) ≤ (k : Int) := Int.natCast_nonneg _
      have i1 : (k : Int) < (L.length : Int) := by omega
      go_wp2_with fail
      go_region_held3 (fun w' => w'.cell? ⟨g, o + k * 5, none⟩ = some (.string (binAt L k).code) ∧ w'.cell? ⟨g, o + k * 5 + 1, none⟩ = some (.int .i64 (binAt L k).amount) ∧ w'.cell? ⟨g, o + k * 5 + 2, none⟩ = some (.int .i64 (binAt L k).reserved) ∧ w'.cell? ⟨g, o + k * 5 + 3, none⟩ = some (.int .i64 (binAt L k).point) ∧ w'.cell? ⟨g, o + k * 5 + 4, none⟩ = some (.int .i64 (binAt L k).lot) ∧ w'.cell? ⟨g', o' + k * 5, none⟩ = some (.string (binAt L k).code) ∧ w'.cell? ⟨g', o' + k * 5 + 1, none⟩ = some (.int .i64 (binAt L k).amount) ∧ w'.cell? ⟨g', o' + k * 5 + 2, none⟩ = some (.int .i64 (binAt L k).reserved) ∧ w'.cell? ⟨g', o' + k * 5 + 3, none⟩ = some (.int .i64 (binAt L k).point) ∧ w'.cell? ⟨g', o' + k * 5 + 4, none⟩ = some (.int .i64 (binAt L k).lot))
        (first | (go_split_ands; refine ⟨?_, ?_, ?_, ?_, ?_, ?_, ?_, ?_, ?_, ?_⟩ <;> (rw [hb2.cell (by simp; omega)]; assumption)) | go_keep) ((go_at_call 64; refine (eqBin_same (binAt L k) _).mono ?_; rintro e w2 ⟨rfl, hb2⟩))
      go_wp2
      go_roundw
      case rel => exact ⟨k + 1, by omega, by go_num, hb.drew.trans (hb2.mono hsz)⟩
      case measure => simp [intOf]; omega
    · go_wp2
      go_ret
      exact ⟨rfl, hb⟩

/-- Marks from k on. -/
def binMk (k n : Nat) : List Bin := (List.range n).map fun i => ⟨markS (k + 5 * i), ((k + 5 * i + 1 : Nat) : Int), ((k + 5 * i + 2 : Nat) : Int), ((k + 5 * i + 3 : Nat) : Int), ((k + 5 * i + 4 : Nat) : Int)⟩
theorem binMk_len (k n : Nat) : (binMk k n).length = n := by simp [binMk]
theorem binMk_at (k n i : Nat) (h : i < n) : binAt (binMk k n) i = ⟨markS (k + 5 * i), ((k + 5 * i + 1 : Nat) : Int), ((k + 5 * i + 2 : Nat) : Int), ((k + 5 * i + 3 : Nat) : Int), ((k + 5 * i + 4 : Nat) : Int)⟩ := by
  simp [binAt, binMk, List.getD, h]
theorem binMk_row (k n i : Nat) (h : i < n) : (binRow (binMk k n))[i * 5]? = some (.string (markS (k + 5 * i))) ∧ (binRow (binMk k n))[i * 5 + 1]? = some (.int .i64 ((k + 5 * i + 1 : Nat) : Int)) ∧ (binRow (binMk k n))[i * 5 + 2]? = some (.int .i64 ((k + 5 * i + 2 : Nat) : Int)) ∧ (binRow (binMk k n))[i * 5 + 3]? = some (.int .i64 ((k + 5 * i + 3 : Nat) : Int)) ∧ (binRow (binMk k n))[i * 5 + 4]? = some (.int .i64 ((k + 5 * i + 4 : Nat) : Int)) := by
  have := binRow_at (binMk k n) i (by rw [binMk_len]; exact h)
  rw [binMk_at _ _ _ h] at this
  exact this

set_option maxHeartbeats 800000 in
theorem markBinS_any (base n k : Nat) (v : Value) (xs : List Value) (w : World) (ho : w.ownsRow base 58 5 v n xs) (hk1 : 1 ≤ k) (hk2 : k ≤ 1073741824) (hn : n ≤ 4194304) :
    Calls Try.prog 24 #[v, .int .i64 k] w (MarkPost base 58 5 v n (binRow (binMk k n)) (k + 5 * n) w) := by
  obtain ⟨A, c, rfl, _, _⟩ := own_slice ho
  have Ho := Lib.hid ho
  clear ho
  go_enter Try.func24, Try.ntmps24
  go_wp2
  go_loopw [1, 5] (fun v i wr => ∃ (m q : Nat) (ys : List Value), m = k + 5 * q ∧ q ≤ n ∧ v = .int .i64 m ∧ i = .int .i64 q ∧ wr.ownsRow base 58 5 (.slice A n c) n ys ∧ Pre ys (binRow (binMk k n)) (q * 5) ∧ w.grownBy wr (Value.slice A n c).ownBlock)
    (fun _ i _ => n - (intOf i).toNat)
  case atStart => exact ⟨k, 0, xs, by omega, Nat.zero_le _, rfl, rfl, Ho.out, by rw [Nat.zero_mul]; exact Pre.zero _ _, gb_refl _ _⟩
  case round =>
    obtain ⟨m, q, ys, hm, hq, rfl, rfl, h1, hp, hg⟩ := hrel
    have hm1 : 1 ≤ m := by omega
    have hm2 : m ≤ 1099511627776 := by omega
    have Hm := Lib.hid hm
    have H1 := Lib.hid h1
    have Hp := Lib.hid hp
    have Hg := Lib.hid hg
    clear hm h1 hp hg
    by_cases hlt : q < n
    · obtain ⟨g, cc, hv, hb0, hglt⟩ := own_form H1.out (by omega)
      injection hv with hA hn' hc'
      subst hA
      clear hc' hn' cc
      go_wp2_with fail
      refine (markText_any m _ hm1 hm2).mono ?_
      rintro e w2 ⟨rfl, hb2⟩
      have ho2 := own_below H1.out hb2
      obtain ⟨x0, d0⟩ := own_cell ho2 (j := q * 5) (by omega)
      have f0 := ho2.frozenAt (q * 5)
      obtain ⟨x1, d1⟩ := own_cell ho2 (j := q * 5 + 1) (by omega)
      have f1 := ho2.frozenAt (q * 5 + 1)
      obtain ⟨x2, d2⟩ := own_cell ho2 (j := q * 5 + 2) (by omega)
      have f2 := ho2.frozenAt (q * 5 + 2)
      obtain ⟨x3, d3⟩ := own_cell ho2 (j := q * 5 + 3) (by omega)
      have f3 := ho2.frozenAt (q * 5 + 3)
      obtain ⟨x4, d4⟩ := own_cell ho2 (j := q * 5 + 4) (by omega)
      have f4 := ho2.frozenAt (q * 5 + 4)
      have Ho2 := Lib.hid ho2
      clear ho2
      go_wp2
      go_roundw
      case rel =>
        obtain ⟨r0, r1, r2, r3, r4⟩ := binMk_row k n q hlt
        have e0 := Hm.out
        subst e0
        have hlen := Ho2.out.1
        obtain ⟨s0, t0⟩ := Ho2.out.stored (q * 5) (.string (markS (k + 5 * q)))
        obtain ⟨s1, t1⟩ := s0.stored (q * 5 + 1) (.int .i64 ((k + 5 * q + 1 : Nat) : Int))
        obtain ⟨s2, t2⟩ := s1.stored (q * 5 + 2) (.int .i64 ((k + 5 * q + 2 : Nat) : Int))
        obtain ⟨s3, t3⟩ := s2.stored (q * 5 + 3) (.int .i64 ((k + 5 * q + 3 : Nat) : Int))
        obtain ⟨s4, t4⟩ := s3.stored (q * 5 + 4) (.int .i64 ((k + 5 * q + 4 : Nat) : Int))
        exact ⟨k + 5 * q + 5, q + 1, _, by omega, by omega, by go_num, by go_num, s4, Hp.out.bin (by omega) r0 r1 r2 r3 r4, (gb_trans (gb_trans (gb_trans (gb_trans (gb_trans (gb_below Hg.out hb2) t0) t1) t2) t3) t4)⟩
      case measure => simp [intOf]; omega
    · go_wp2
      go_ret
      have hq2 : q = n := by omega
      subst hq2
      have e0 := Hm.out
      subst e0
      refine ⟨_, rfl, rfl, ?_, Hg.out⟩
      rw [← Hp.out.all H1.out.1 (by rw [binRow_len, binMk_len])]
      exact H1.out

set_option maxHeartbeats 800000 in
theorem heldBinS_any (n k : Nat) (v : Value) (w : World) (hv : Sl w 5 v n (binRow (binMk k n))) (hk1 : 1 ≤ k) (hk2 : k ≤ 1073741824) (hn : n ≤ 4194304) :
    Calls Try.prog 25 #[v, .int .i64 k] w (HeldPost (k + 5 * n) w) := by
  obtain ⟨A, c, rfl, _, _, hr⟩ := hv
  have Hr := Lib.hid hr
  clear hr
  go_enter Try.func25, Try.ntmps25
  go_wp2
  go_loopw [1, 5] (fun v i wr => ∃ (m q : Nat), m = k + 5 * q ∧ q ≤ n ∧ v = .int .i64 m ∧ i = .int .i64 q ∧ Below w.heap.size w wr) (fun _ i _ => n - (intOf i).toNat)
  case atStart => exact ⟨k, 0, by omega, Nat.zero_le _, rfl, rfl, Below.refl _ _⟩
  case round =>
    obtain ⟨m, q, hm, hq, rfl, rfl, hb⟩ := hrel
    have hsz := hb.size
    have hm1 : 1 ≤ m := by omega
    have hm2 : m ≤ 1099511627776 := by omega
    by_cases hlt : q < n
    · have hj := (Rd.bin (L := binMk k n) (by rw [binMk_len]; exact (Hr.out.below hb (Nat.le_refl _))) (k := q) (by rw [binMk_len]; exact hlt))
      rw [binMk_at _ _ _ hlt, ← hm] at hj
      obtain ⟨g, o, rfl, hg, c0, c1, c2, c3, c4⟩ := hj
      have Hm := Lib.hid hm
      clear hm
      have i0 : (0 : Int) ≤ (q : Int) := Int.natCast_nonneg _
      have i1 : (q : Int) < (n : Int) := by omega
      go_wp2_with fail
      go_region_held3 (fun w' => w'.cell? ⟨g, o + q * 5, none⟩ = some (.string (markS (m))) ∧ w'.cell? ⟨g, o + q * 5 + 1, none⟩ = some (.int .i64 ((m + 1 : Nat) : Int)) ∧ w'.cell? ⟨g, o + q * 5 + 2, none⟩ = some (.int .i64 ((m + 2 : Nat) : Int)) ∧ w'.cell? ⟨g, o + q * 5 + 3, none⟩ = some (.int .i64 ((m + 3 : Nat) : Int)) ∧ w'.cell? ⟨g, o + q * 5 + 4, none⟩ = some (.int .i64 ((m + 4 : Nat) : Int)))
        (first | (go_split_ands; refine ⟨?_, ?_, ?_, ?_, ?_⟩ <;> (rw [hb2.cell (by simp; omega)]; assumption)) | go_keep) ((go_at_call 70; refine (markText_any m _ hm1 hm2).mono ?_; rintro e w2 ⟨rfl, hb2⟩))
      go_split_ands
      go_wp2
      go_roundw
      case rel => exact ⟨m + 5, q + 1, by have := Hm.out; omega, by omega, by go_num, by go_num, hb.drew.trans (hb2.mono hsz)⟩
      case measure => simp [intOf]; omega
    · go_wp2
      go_ret
      have hq2 : q = n := by omega
      subst hq2
      subst hm
      exact ⟨_, rfl, rfl, hb⟩

theorem open_bins {H : Type} {enc : TypeId × Value → H} {w : World} {r : Reach} {b : Nat} {v : Value} {d : DataW H} {p : List MemPlace} (hv : Value.okWide Try.prog w r b 22 v)
    (h : DataW.Trod enc Try.prog w 0 (fun _ => true) true 22 v d p) :
    ∃ L : List Bin, Sl w 5 v L.length (binRow L) ∧ binFit L := by
  rcases open_structs Try.underlying22 Try.underlying63 (by kernel_rfl) (by kernel_rfl) (okWide_slice Try.underlying22 hv) h with rfl | ⟨a, len, cap, rfl, hl, hc, hf⟩
  · exact ⟨[], Sl.nil, fun i h => absurd h (by simp)⟩
  · have hg : ∀ i, i < len → ∃ j : Bin, w.cell? (a.add (i * 5 + 0)) = some (.string (j).code) ∧ w.cell? (a.add (i * 5 + 1)) = some (.int .i64 (j).amount) ∧ w.cell? (a.add (i * 5 + 2)) = some (.int .i64 (j).reserved) ∧ w.cell? (a.add (i * 5 + 3)) = some (.int .i64 (j).point) ∧ w.cell? (a.add (i * 5 + 4)) = some (.int .i64 (j).lot) ∧ j.code.size ≤ maxLen := by
      intro i hi
      obtain ⟨u0, f0⟩ := hf i hi 0 _ rfl
      obtain ⟨u1, f1⟩ := hf i hi 1 _ rfl
      obtain ⟨u2, f2⟩ := hf i hi 2 _ rfl
      obtain ⟨u3, f3⟩ := hf i hi 3 _ rfl
      obtain ⟨u4, f4⟩ := hf i hi 4 _ rfl
      obtain ⟨y0, rfl, z0⟩ := f0.str Try.underlying9
      obtain ⟨y1, rfl, z1⟩ := f1.int Try.underlying2
      obtain ⟨y2, rfl, z2⟩ := f2.int Try.underlying2
      obtain ⟨y3, rfl, z3⟩ := f3.int Try.underlying2
      obtain ⟨y4, rfl, z4⟩ := f4.int Try.underlying2
      exact ⟨⟨y0, y1, y2, y3, y4⟩, f0.1, f1.1, f2.1, f3.1, f4.1, z0⟩
    obtain ⟨J, hJ⟩ := choose_lt hg
    refine ⟨(List.range len).map J, ⟨some a, cap, by simp, by simpa using hl, hc, by rw [binRow_len], fun hn => ?_⟩, fun i hi => ?_⟩
    · have hn' : 0 < len := by simpa using hn
      obtain ⟨u0, f0⟩ := hf 0 hn' 0 _ rfl
      obtain ⟨g, o, rfl, hgl⟩ := f0.plain
      refine ⟨g, o, rfl, hgl, fun j u hu => ?_⟩
      have hj : j < ((List.range len).map J).length * 5 := by rw [← binRow_len]; exact (List.getElem?_eq_some_iff.1 hu).1
      have hj' : j / 5 < len := by simp at hj; omega
      have ha : binAt ((List.range len).map J) (j / 5) = J (j / 5) := by simp [binAt, List.getD, hj']
      obtain ⟨q0, q1, q2, q3, q4⟩ := binRow_at ((List.range len).map J) (j / 5) (by simpa using hj')
      obtain ⟨c0, c1, c2, c3, c4, _⟩ := hJ (j / 5) hj'
      rw [ha] at q0 q1 q2 q3 q4
      rw [addr_add] at c0 c1 c2 c3 c4
      have hcase : j = j / 5 * 5 ∨ j = j / 5 * 5 + 1 ∨ j = j / 5 * 5 + 2 ∨ j = j / 5 * 5 + 3 ∨ j = j / 5 * 5 + 4 := by omega
      rcases hcase with e | e | e | e | e
      · rw [e] at hu ⊢; rw [q0] at hu; cases hu; exact c0
      · rw [e] at hu ⊢; rw [q1] at hu; cases hu; exact c1
      · rw [e] at hu ⊢; rw [q2] at hu; cases hu; exact c2
      · rw [e] at hu ⊢; rw [q3] at hu; cases hu; exact c3
      · rw [e] at hu ⊢; rw [q4] at hu; cases hu; exact c4
    · have hi' : i < len := by simpa using hi
      have ha : binAt ((List.range len).map J) i = J i := by simp [binAt, List.getD, hi']
      rw [ha]; exact (hJ i hi').2.2.2.2.2


end Go.Proofs.Ytngphnfbfednnaa
