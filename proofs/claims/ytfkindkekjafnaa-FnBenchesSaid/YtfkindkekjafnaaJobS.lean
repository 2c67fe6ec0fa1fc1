/- The lists of Job: their cells; the walks of the laws' own small functions on them (sz, to, eq, mark, held); an argument opened. Printed by gen.py. -/
import Derived.Test.YtfkindkekjafnaaMark
import Derived.Test.YtfkindkekjafnaaOpen
import Derived.StillTactics
import Derived.Laws.Pointers
import Derived.Deep.RegionHeld3
import Derived.Lib.SmallJoins
namespace Go.Proofs.Ytfkindkekjafnaa
open Go.ChangeShapes Go.WideShapes Go.ChangeAt Go.RowKit Go.Deep

structure Job where
  name : ByteArray
  min : Int
  due : Int
instance : Inhabited Job := ⟨⟨⟨#[]⟩, 0, 0⟩⟩

/-- The cells of one. -/
def jobCells (j : Job) : List Value := [.string (j).name, .int .i64 (j).min, .int .i64 (j).due]
def jobRow (L : List Job) : List Value := L.flatMap jobCells
/-- The i-th. -/
def jobAt (L : List Job) (i : Nat) : Job := L.getD i default

theorem jobRow_len (L : List Job) : (jobRow L).length = L.length * 3 := by
  induction L with
  | nil => rfl
  | cons a l ih => simp only [jobRow, List.flatMap_cons, List.length_append] at *; rw [ih]; simp [jobCells]; omega
theorem jobRow_cons (a : Job) (L : List Job) : jobRow (a :: L) = .string (a).name :: .int .i64 (a).min :: .int .i64 (a).due :: jobRow L := rfl
theorem jobRow_append (L M : List Job) : jobRow (L ++ M) = jobRow L ++ jobRow M := by simp [jobRow]
theorem jobAt_lt {L : List Job} {i : Nat} (h : i < L.length) : jobAt L i = L[i] := by simp [jobAt, List.getD, h]
theorem jobAt_append_lt {L M : List Job} {i : Nat} (h : i < L.length) : jobAt (L ++ M) i = jobAt L i := by simp [jobAt, List.getD, h, List.getElem?_append_left]
theorem jobRow_at (L : List Job) : ∀ i, i < L.length → (jobRow L)[i * 3]? = some (.string (jobAt L i).name) ∧ (jobRow L)[i * 3 + 1]? = some (.int .i64 (jobAt L i).min) ∧ (jobRow L)[i * 3 + 2]? = some (.int .i64 (jobAt L i).due) := by
  induction L with
  | nil => intro i h; simp at h
  | cons a l ih =>
    intro i h
    cases i with
    | zero => exact ⟨rfl, rfl, rfl⟩
    | succ i =>
      have := ih i (by simpa using h)
      rw [jobRow_cons, show (i + 1) * 3 = i * 3 + 3 by omega]
      simpa [jobAt, List.getD] using this
theorem jobCells_one (j : Job) : ∀ u ∈ jobCells j, u.oneCell' = true := by
  intro u hu
  simp only [jobCells, List.mem_cons, List.not_mem_nil, or_false] at hu
  rcases hu with rfl | rfl | rfl <;> rfl
theorem jobRow_one (L : List Job) : ∀ u ∈ jobRow L, u.oneCell' = true := by
  intro u hu
  obtain ⟨j, _, hj⟩ := List.mem_flatMap.1 hu
  exact jobCells_one j u hj
theorem jobRow_inj {L M : List Job} (hl : L.length = M.length) (h : ∀ i, i < L.length → jobAt L i = jobAt M i) : L = M := by
  refine List.ext_getElem hl fun i h1 h2 => ?_
  have := h i h1
  rwa [jobAt_lt h1, jobAt_lt h2] at this
theorem Rd.job {w : World} {B : Nat} {A : Option Addr} {L : List Job} (h : Rd w B 3 A L.length (jobRow L)) {k : Nat} (hk : k < L.length) :
    ∃ g o, A = some ⟨g, o, none⟩ ∧ g < B ∧ w.cell? ⟨g, o + k * 3, none⟩ = some (.string (jobAt L k).name) ∧ w.cell? ⟨g, o + k * 3 + 1, none⟩ = some (.int .i64 (jobAt L k).min) ∧ w.cell? ⟨g, o + k * 3 + 2, none⟩ = some (.int .i64 (jobAt L k).due) := by
  obtain ⟨g, o, e, hg, hc⟩ := h.2 (by omega)
  obtain ⟨e0, e1, e2⟩ := jobRow_at L k hk
  exact ⟨g, o, e, hg, hc _ _ e0, by rw [Nat.add_assoc]; exact hc _ _ e1, by rw [Nat.add_assoc]; exact hc _ _ e2⟩
theorem Pre.job {xs ys : List Value} {k : Nat} {u0 u1 u2 : Value} (h : Pre xs ys (k * 3)) (hm : k * 3 + 2 < xs.length) (h0 : ys[k * 3]? = some u0) (h1 : ys[k * 3 + 1]? = some u1) (h2 : ys[k * 3 + 2]? = some u2) :
    Pre (((xs.set (k * 3) u0).set (k * 3 + 1) u1).set (k * 3 + 2) u2) ys ((k + 1) * 3) := by
  rw [show (k + 1) * 3 = k * 3 + 1 + 1 + 1 by omega]
  exact (((h.set (by omega) h0).set (by simp; omega) h1).set (by simp; omega) h2)

/-- Its texts are no longer than a text can be. -/
def jobFit (L : List Job) : Prop := ∀ i, i < L.length → (jobAt L i).name.size ≤ maxLen

def szI (n : Int) (k : Nat) : Int := if n < k then -1 else n - k
theorem szI_lo {n : Int} {k : Nat} (h : n < k) : szI n k = -1 := if_pos h
theorem szI_le (n : Int) (k : Nat) (h : n ≤ 1048576) : szI n k ≤ 1048576 := by unfold szI; split <;> omega
theorem szI_hi {n : Int} {k : Nat} (h : ¬ n < k) : szI n k = n - k := if_neg h
set_option maxHeartbeats 400000 in
theorem szJob_any (j : Job) (n : Int) (w : World) (hs : j.name.size ≤ maxLen) (h0 : 0 ≤ n) (h1 : n ≤ 1048576) :
    Calls Try.prog 19 #[.agg #[.string (j).name, .int .i64 (j).min, .int .i64 (j).due], .int .i64 n] w fun e w' => e = .returned (.int .i64 (szI n j.name.size)) ∧ Below w.heap.size w w' := by
  unfold maxLen at hs
  by_cases h : n < j.name.size
  · have H := Lib.hid (szI_lo h)
    go_enter Try.func19, Try.ntmps19
    go_wp2
    go_ret
    exact ⟨retI H.out.symm, (Below.refl _ _).alloc (Nat.le_refl _) _⟩
  · have H := Lib.hid (szI_hi h)
    go_enter Try.func19, Try.ntmps19
    go_wp2
    go_ret
    exact ⟨retI H.out.symm, (Below.refl _ _).alloc (Nat.le_refl _) _⟩

set_option maxHeartbeats 400000 in
theorem szJobS_any (L : List Job) (v : Value) (n : Int) (w : World) (hv : Sl w 3 v L.length (jobRow L)) (hs : jobFit L) (h0 : 0 ≤ n) (h1 : n ≤ 1048576) :
    Calls Try.prog 14 #[v, .int .i64 n] w (SzPost L.length w) := by
  obtain ⟨A, c, rfl, hl, hc, hr⟩ := hv
  unfold maxLen at hc
  have Hr := Lib.hid hr
  have Hs := Lib.hid hs
  clear hr hs
  by_cases hn : n < L.length
  · go_enter Try.func14, Try.ntmps14
    go_wp2
    go_ret
    exact ⟨-1, rfl, by omega, by omega, Below.refl _ _⟩
  · go_enter Try.func14, Try.ntmps14
    go_wp2
    go_loopw [1, 5] (fun v i wr => ∃ (k : Nat) (m : Int), k ≤ L.length ∧ i = .int .i64 k ∧ 0 ≤ m ∧ m ≤ 1048576 ∧ v = .int .i64 m ∧ Below w.heap.size w wr) (fun _ i _ => L.length - (intOf i).toNat)
    case atStart => exact ⟨0, _, Nat.zero_le _, rfl, by omega, by omega, rfl, Below.refl _ _⟩
    case round =>
      obtain ⟨k, m, hk, rfl, hm0, hm1, rfl, hb⟩ := hrel
      by_cases hlt : k < L.length
      · obtain ⟨g, o, rfl, hg, c0, c1, c2⟩ := (Hr.out.below hb (Nat.le_refl _)).job hlt
        have hsz := hb.size
        by_cases hm : m < (jobAt L k).name.size
        · go_wp2_with fail
          refine (szJob_any (jobAt L k) m _ (Hs.out k hlt) hm0 hm1).mono ?_
          rw [szI_lo (by omega)]
          rintro e w1 ⟨rfl, hb1⟩
          go_wp2
          go_ret
          exact ⟨-1, rfl, by omega, by omega, hb.trans (hb1.mono hsz)⟩
        · go_wp2_with fail
          refine (szJob_any (jobAt L k) m _ (Hs.out k hlt) hm0 hm1).mono ?_
          rw [szI_hi (by omega)]
          rintro e w1 ⟨rfl, hb1⟩
          go_wp2
          go_roundw
          case rel => exact ⟨k + 1, _, by omega, by go_num, by omega, by omega, rfl, hb.trans (hb1.mono hsz)⟩
          case measure => simp [intOf]; omega
      · go_wp2
        go_ret
        exact ⟨m, rfl, by omega, by omega, hb⟩

set_option maxHeartbeats 400000 in
theorem toJob_any (j : Job) (w : World) :
    Calls Try.prog 21 #[.agg #[.string (j).name, .int .i64 (j).min, .int .i64 (j).due]] w fun e w' => e = .returned (.agg #[.string (j).name, .int .i64 (j).min, .int .i64 (j).due]) ∧ Below w.heap.size w w' := by
  go_enter Try.func21, Try.ntmps21
  go_wp2
  refine bodyPost_ret (v := .agg #[.string (j).name, .int .i64 (j).min, .int .i64 (j).due]) (by simp [results, Try.results21, go_sem]) rfl ⟨rfl, ?_⟩
  exact (((Below.refl _ _).alloc (by simp) _).alloc (by simp) _).alloc (by simp; omega) _

theorem Try.infoJob : (Try.prog.info? 34).map (fun i => (i.zero, i.size, i.bytes)) = some (some (.agg #[.string ⟨#[]⟩, .int .i64 0, .int .i64 0]), 3, 32) := by kernel_rfl

set_option maxHeartbeats 400000 in
theorem toJobS_any (L : List Job) (v : Value) (w : World) (hv : Sl w 3 v L.length (jobRow L)) (hn : L.length ≤ 1048576) :
    Calls Try.prog 16 #[v] w (Gives w.heap.size 34 3 L.length (jobRow L) w) := by
  obtain ⟨A, c, rfl, hl, hc, hr⟩ := hv
  have Hr := Lib.hid hr
  clear hr hl hc
  obtain ⟨i0, hi, hz0, hz1, hz2⟩ := info_parts Try.infoJob
  go_enter Try.func16, Try.ntmps16
  go_wp2_with (at_make; refine wpList_make_full _ rfl _ _ 25 rfl w.heap.size 34 i0 _ 3 Try.underlying25 hi hz0 hz1 _ _ _ _ L.length rfl rfl rfl rfl ?b1 ?b2 ?b3 ?_)
  case b1 => rw [hz2]; omega
  case b2 => unfold maxLen; omega
  case b3 => exact Nat.le_refl _
  intro w1 hown hgr
  have hb1 := (Below.refl w.heap.size w).grown hgr (Nat.le_refl _) (fun _ h => by cases h)
  clear hgr
  go_wp2
  go_loopw [4] (fun i wr => ∃ (k : Nat) (xs : List Value), k ≤ L.length ∧ i = .int .i64 k ∧ wr.ownsRow w.heap.size 34 3 (.slice (some ⟨w.heap.size, 0, none⟩) L.length L.length) L.length xs ∧ Pre xs (jobRow L) (k * 3) ∧ Below w.heap.size w wr)
    (fun i _ => L.length - (intOf i).toNat)
  case atStart => exact ⟨0, _, Nat.zero_le _, rfl, hown, by rw [Nat.zero_mul]; exact Pre.zero _ _, hb1⟩
  case round =>
    obtain ⟨k, xs, hk, rfl, ho, hp, hb⟩ := hrel
    have Ho := Lib.hid ho
    have Hp := Lib.hid hp
    clear ho hp hown
    have hsz := hb.size
    by_cases hlt : k < L.length
    · obtain ⟨g, o, rfl, hg, c0, c1, c2⟩ := (Hr.out.below hb (Nat.le_refl _)).job hlt
      go_wp2_with fail
      refine (toJob_any (jobAt L k) _).mono ?_
      rintro e w2 ⟨rfl, hb2⟩
      have ho2 := own_below Ho.out hb2
      obtain ⟨x0, d0⟩ := own_cell ho2 (j := k * 3) (by omega)
      have f0 := ho2.frozenAt (k * 3)
      obtain ⟨x1, d1⟩ := own_cell ho2 (j := k * 3 + 1) (by omega)
      have f1 := ho2.frozenAt (k * 3 + 1)
      obtain ⟨x2, d2⟩ := own_cell ho2 (j := k * 3 + 2) (by omega)
      have f2 := ho2.frozenAt (k * 3 + 2)
      have Ho2 := Lib.hid ho2
      clear ho2
      go_wp2
      go_roundw
      case rel =>
        obtain ⟨q0, q1, q2⟩ := jobRow_at L k hlt
        have hlen := Ho2.out.1
        exact ⟨k + 1, _, by omega, by go_num, (((Ho2.out.stored (k * 3) _).1.stored (k * 3 + 1) _).1.stored (k * 3 + 2) _).1, Hp.out.job (by omega) q0 q1 q2, ((((hb.trans (hb2.mono hsz)).setCell (Nat.le_refl _) _).setCell (Nat.le_refl _) _).setCell (Nat.le_refl _) _)⟩
      case measure => simp [intOf]; omega
    · go_wp2
      go_ret
      have hk2 : k = L.length := by omega
      subst hk2
      refine ⟨_, rfl, ?_, hb⟩
      rw [← Hp.out.all Ho.out.1 (jobRow_len L)]
      exact Ho.out

set_option maxHeartbeats 400000 in
theorem eqJob_same (j : Job) (w : World) :
    Calls Try.prog 57 #[.agg #[.string (j).name, .int .i64 (j).min, .int .i64 (j).due], .agg #[.string (j).name, .int .i64 (j).min, .int .i64 (j).due]] w fun e w' => e = .returned (.bool true) ∧ Below w.heap.size w w' := by
  go_enter Try.func57, Try.ntmps57
  go_wp2
  go_ret
  exact ⟨rfl, ((Below.refl _ _).alloc (by simp) _).alloc (by simp) _⟩

set_option maxHeartbeats 800000 in
theorem eqJobS_same (L : List Job) (v v' : Value) (w : World) (hv : Sl w 3 v L.length (jobRow L)) (hv' : Sl w 3 v' L.length (jobRow L)) (hn : L.length ≤ 4194304) :
    Calls Try.prog 18 #[v, v'] w fun e w' => e = .returned (.bool true) ∧ Below w.heap.size w w' := by
  obtain ⟨A, c, rfl, hl, hc, hr⟩ := hv
  obtain ⟨A', c', rfl, hl', hc', hr'⟩ := hv'
  have Hr := Lib.hid hr
  have Hr' := Lib.hid hr'
  clear hr hr' hl hl' hc hc'
  go_enter Try.func18, Try.ntmps18
  go_wp2
  go_loopw [5] (fun i wr => ∃ k : Nat, k ≤ L.length ∧ i = .int .i64 k ∧ Below w.heap.size w wr) (fun i _ => L.length - (intOf i).toNat)
  case atStart => exact ⟨0, Nat.zero_le _, rfl, Below.refl _ _⟩
  case round =>
    obtain ⟨k, hk, rfl, hb⟩ := hrel
    have hsz := hb.size
    by_cases hlt : k < L.length
    · obtain ⟨g, o, rfl, hg, c0, c1, c2⟩ := (Hr.out.below hb (Nat.le_refl _)).job hlt
      obtain ⟨g', o', rfl, hg', c0', c1', c2'⟩ := (Hr'.out.below hb (Nat.le_refl _)).job hlt
      have i0 : (0 : Int) ≤ (k : Int) := Int.natCast_nonneg _
      have i1 : (k : Int) < (L.length : Int) := by omega
      go_wp2_with fail
      go_region_held3 (fun w' => w'.cell? ⟨g, o + k * 3, none⟩ = some (.string (jobAt L k).name) ∧ w'.cell? ⟨g, o + k * 3 + 1, none⟩ = some (.int .i64 (jobAt L k).min) ∧ w'.cell? ⟨g, o + k * 3 + 2, none⟩ = some (.int .i64 (jobAt L k).due) ∧ w'.cell? ⟨g', o' + k * 3, none⟩ = some (.string (jobAt L k).name) ∧ w'.cell? ⟨g', o' + k * 3 + 1, none⟩ = some (.int .i64 (jobAt L k).min) ∧ w'.cell? ⟨g', o' + k * 3 + 2, none⟩ = some (.int .i64 (jobAt L k).due))
        (first | (go_split_ands; refine ⟨?_, ?_, ?_, ?_, ?_, ?_⟩ <;> (rw [hb2.cell (by simp; omega)]; assumption)) | go_keep) ((go_at_call 57; refine (eqJob_same (jobAt L k) _).mono ?_; rintro e w2 ⟨rfl, hb2⟩))
      go_wp2
      go_roundw
      case rel => exact ⟨k + 1, by omega, by go_num, hb.drew.trans (hb2.mono hsz)⟩
      case measure => simp [intOf]; omega
    · go_wp2
      go_ret
      exact ⟨rfl, hb⟩

/-- Marks from k on. -/
def jobMk (k n : Nat) : List Job := (List.range n).map fun i => ⟨markS (k + 3 * i), ((k + 3 * i + 1 : Nat) : Int), ((k + 3 * i + 2 : Nat) : Int)⟩
theorem jobMk_len (k n : Nat) : (jobMk k n).length = n := by simp [jobMk]
theorem jobMk_at (k n i : Nat) (h : i < n) : jobAt (jobMk k n) i = ⟨markS (k + 3 * i), ((k + 3 * i + 1 : Nat) : Int), ((k + 3 * i + 2 : Nat) : Int)⟩ := by
  simp [jobAt, jobMk, List.getD, h]
theorem jobMk_row (k n i : Nat) (h : i < n) : (jobRow (jobMk k n))[i * 3]? = some (.string (markS (k + 3 * i))) ∧ (jobRow (jobMk k n))[i * 3 + 1]? = some (.int .i64 ((k + 3 * i + 1 : Nat) : Int)) ∧ (jobRow (jobMk k n))[i * 3 + 2]? = some (.int .i64 ((k + 3 * i + 2 : Nat) : Int)) := by
  have := jobRow_at (jobMk k n) i (by rw [jobMk_len]; exact h)
  rw [jobMk_at _ _ _ h] at this
  exact this

set_option maxHeartbeats 800000 in
theorem markJobS_any (base n k : Nat) (v : Value) (xs : List Value) (w : World) (ho : w.ownsRow base 34 3 v n xs) (hk1 : 1 ≤ k) (hk2 : k ≤ 1073741824) (hn : n ≤ 4194304) :
    Calls Try.prog 23 #[v, .int .i64 k] w (MarkPost base 34 3 v n (jobRow (jobMk k n)) (k + 3 * n) w) := by
  obtain ⟨A, c, rfl, _, _⟩ := own_slice ho
  have Ho := Lib.hid ho
  clear ho
  go_enter Try.func23, Try.ntmps23
  go_wp2
  go_loopw [1, 5] (fun v i wr => ∃ (m q : Nat) (ys : List Value), m = k + 3 * q ∧ q ≤ n ∧ v = .int .i64 m ∧ i = .int .i64 q ∧ wr.ownsRow base 34 3 (.slice A n c) n ys ∧ Pre ys (jobRow (jobMk k n)) (q * 3) ∧ w.grownBy wr (Value.slice A n c).ownBlock)
    (fun _ i _ => n - (intOf i).toNat)
  case atStart => exact ⟨k, 0, xs, by omega, Nat.zero_le _, rfl, rfl, Ho.out, by rw [Nat.zero_mul]; exact Pre.zero _ _, gb_refl _ _⟩
  case round =>
    obtain ⟨m, q, ys, hm, hq, rfl, rfl, h1, hp, hg⟩ := hrel
    have hm1 : 1 ≤ m := by omega
    have hm2 : m ≤ 1099511627776 := by omega
    have Hm := Lib.hid hm
    have H1 := Lib.hid h1
    have Hp := Lib.hid hp
    have Hg := Lib.hid hg
    clear hm h1 hp hg
    by_cases hlt : q < n
    · obtain ⟨g, cc, hv, hb0, hglt⟩ := own_form H1.out (by omega)
      injection hv with hA hn' hc'
      subst hA
      clear hc' hn' cc
      go_wp2_with fail
      refine (markText_any m _ hm1 hm2).mono ?_
      rintro e w2 ⟨rfl, hb2⟩
      have ho2 := own_below H1.out hb2
      obtain ⟨x0, d0⟩ := own_cell ho2 (j := q * 3) (by omega)
      have f0 := ho2.frozenAt (q * 3)
      obtain ⟨x1, d1⟩ := own_cell ho2 (j := q * 3 + 1) (by omega)
      have f1 := ho2.frozenAt (q * 3 + 1)
      obtain ⟨x2, d2⟩ := own_cell ho2 (j := q * 3 + 2) (by omega)
      have f2 := ho2.frozenAt (q * 3 + 2)
      have Ho2 := Lib.hid ho2
      clear ho2
      go_wp2
      go_roundw
      case rel =>
        obtain ⟨r0, r1, r2⟩ := jobMk_row k n q hlt
        have e0 := Hm.out
        subst e0
        have hlen := Ho2.out.1
        obtain ⟨s0, t0⟩ := Ho2.out.stored (q * 3) (.string (markS (k + 3 * q)))
        obtain ⟨s1, t1⟩ := s0.stored (q * 3 + 1) (.int .i64 ((k + 3 * q + 1 : Nat) : Int))
        obtain ⟨s2, t2⟩ := s1.stored (q * 3 + 2) (.int .i64 ((k + 3 * q + 2 : Nat) : Int))
        exact ⟨k + 3 * q + 3, q + 1, _, by omega, by omega, by go_num, by go_num, s2, Hp.out.job (by omega) r0 r1 r2, (gb_trans (gb_trans (gb_trans (gb_below Hg.out hb2) t0) t1) t2)⟩
      case measure => simp [intOf]; omega
    · go_wp2
      go_ret
      have hq2 : q = n := by omega
      subst hq2
      have e0 := Hm.out
      subst e0
      refine ⟨_, rfl, rfl, ?_, Hg.out⟩
      rw [← Hp.out.all H1.out.1 (by rw [jobRow_len, jobMk_len])]
      exact H1.out

set_option maxHeartbeats 800000 in
theorem heldJobS_any (n k : Nat) (v : Value) (w : World) (hv : Sl w 3 v n (jobRow (jobMk k n))) (hk1 : 1 ≤ k) (hk2 : k ≤ 1073741824) (hn : n ≤ 4194304) :
    Calls Try.prog 24 #[v, .int .i64 k] w (HeldPost (k + 3 * n) w) := by
  obtain ⟨A, c, rfl, _, _, hr⟩ := hv
  have Hr := Lib.hid hr
  clear hr
  go_enter Try.func24, Try.ntmps24
  go_wp2
  go_loopw [1, 5] (fun v i wr => ∃ (m q : Nat), m = k + 3 * q ∧ q ≤ n ∧ v = .int .i64 m ∧ i = .int .i64 q ∧ Below w.heap.size w wr) (fun _ i _ => n - (intOf i).toNat)
  case atStart => exact ⟨k, 0, by omega, Nat.zero_le _, rfl, rfl, Below.refl _ _⟩
  case round =>
    obtain ⟨m, q, hm, hq, rfl, rfl, hb⟩ := hrel
    have hsz := hb.size
    have hm1 : 1 ≤ m := by omega
    have hm2 : m ≤ 1099511627776 := by omega
    by_cases hlt : q < n
    · have hj := (Rd.job (L := jobMk k n) (by rw [jobMk_len]; exact (Hr.out.below hb (Nat.le_refl _))) (k := q) (by rw [jobMk_len]; exact hlt))
      rw [jobMk_at _ _ _ hlt, ← hm] at hj
      obtain ⟨g, o, rfl, hg, c0, c1, c2⟩ := hj
      have Hm := Lib.hid hm
      clear hm
      have i0 : (0 : Int) ≤ (q : Int) := Int.natCast_nonneg _
      have i1 : (q : Int) < (n : Int) := by omega
      go_wp2_with fail
      go_region_held3 (fun w' => w'.cell? ⟨g, o + q * 3, none⟩ = some (.string (markS (m))) ∧ w'.cell? ⟨g, o + q * 3 + 1, none⟩ = some (.int .i64 ((m + 1 : Nat) : Int)) ∧ w'.cell? ⟨g, o + q * 3 + 2, none⟩ = some (.int .i64 ((m + 2 : Nat) : Int)))
        (first | (go_split_ands; refine ⟨?_, ?_, ?_⟩ <;> (rw [hb2.cell (by simp; omega)]; assumption)) | go_keep) ((go_at_call 58; refine (markText_any m _ hm1 hm2).mono ?_; rintro e w2 ⟨rfl, hb2⟩))
      go_split_ands
      go_wp2
      go_roundw
      case rel => exact ⟨m + 3, q + 1, by have := Hm.out; omega, by omega, by go_num, by go_num, hb.drew.trans (hb2.mono hsz)⟩
      case measure => simp [intOf]; omega
    · go_wp2
      go_ret
      have hq2 : q = n := by omega
      subst hq2
      subst hm
      exact ⟨_, rfl, rfl, hb⟩

theorem open_jobs {H : Type} {enc : TypeId × Value → H} {w : World} {r : Reach} {b : Nat} {v : Value} {d : DataW H} {p : List MemPlace} (hv : Value.okWide Try.prog w r b 22 v)
    (h : DataW.Trod enc Try.prog w 0 (fun _ => true) true 22 v d p) :
    ∃ L : List Job, Sl w 3 v L.length (jobRow L) ∧ jobFit L := by
  rcases open_structs Try.underlying22 Try.underlying30 (by kernel_rfl) (by kernel_rfl) (okWide_slice Try.underlying22 hv) h with rfl | ⟨a, len, cap, rfl, hl, hc, hf⟩
  · exact ⟨[], Sl.nil, fun i h => absurd h (by simp)⟩
  · have hg : ∀ i, i < len → ∃ j : Job, w.cell? (a.add (i * 3 + 0)) = some (.string (j).name) ∧ w.cell? (a.add (i * 3 + 1)) = some (.int .i64 (j).min) ∧ w.cell? (a.add (i * 3 + 2)) = some (.int .i64 (j).due) ∧ j.name.size ≤ maxLen := by
      intro i hi
      obtain ⟨u0, f0⟩ := hf i hi 0 _ rfl
      obtain ⟨u1, f1⟩ := hf i hi 1 _ rfl
      obtain ⟨u2, f2⟩ := hf i hi 2 _ rfl
      obtain ⟨y0, rfl, z0⟩ := f0.str Try.underlying9
      obtain ⟨y1, rfl, z1⟩ := f1.int Try.underlying2
      obtain ⟨y2, rfl, z2⟩ := f2.int Try.underlying2
      exact ⟨⟨y0, y1, y2⟩, f0.1, f1.1, f2.1, z0⟩
    obtain ⟨J, hJ⟩ := choose_lt hg
    refine ⟨(List.range len).map J, ⟨some a, cap, by simp, by simpa using hl, hc, by rw [jobRow_len], fun hn => ?_⟩, fun i hi => ?_⟩
    · have hn' : 0 < len := by simpa using hn
      obtain ⟨u0, f0⟩ := hf 0 hn' 0 _ rfl
      obtain ⟨g, o, rfl, hgl⟩ := f0.plain
      refine ⟨g, o, rfl, hgl, fun j u hu => ?_⟩
      have hj : j < ((List.range len).map J).length * 3 := by rw [← jobRow_len]; exact (List.getElem?_eq_some_iff.1 hu).1
      have hj' : j / 3 < len := by simp at hj; omega
      have ha : jobAt ((List.range len).map J) (j / 3) = J (j / 3) := by simp [jobAt, List.getD, hj']
      obtain ⟨q0, q1, q2⟩ := jobRow_at ((List.range len).map J) (j / 3) (by simpa using hj')
      obtain ⟨c0, c1, c2, _⟩ := hJ (j / 3) hj'
      rw [ha] at q0 q1 q2
      rw [addr_add] at c0 c1 c2
      have hcase : j = j / 3 * 3 ∨ j = j / 3 * 3 + 1 ∨ j = j / 3 * 3 + 2 := by omega
      rcases hcase with e | e | e
      · rw [e] at hu ⊢; rw [q0] at hu; cases hu; exact c0
      · rw [e] at hu ⊢; rw [q1] at hu; cases hu; exact c1
      · rw [e] at hu ⊢; rw [q2] at hu; cases hu; exact c2
    · have hi' : i < len := by simpa using hi
      have ha : jobAt ((List.range len).map J) i = J i := by simp [jobAt, List.getD, hi']
      rw [ha]; exact (hJ i hi').2.2.2

theorem open_jobV {H : Type} {enc : TypeId × Value → H} {w : World} {r : Reach} {b : Nat} {v : Value} {d : DataW H} {p : List MemPlace} (hv : Value.okWide Try.prog w r b 30 v)
    (h : DataW.Trod enc Try.prog w 0 (fun _ => true) true 30 v d p) : ∃ j : Job, v = .agg #[.string (j).name, .int .i64 (j).min, .int .i64 (j).due] ∧ j.name.size ≤ maxLen := by
  obtain ⟨c0, c1, c2, y0, y1, y2, m, rfl, _, _, h0, h1, h2⟩ := Joins.open_agg3 Try.underlying30 (by kernel_rfl) (by kernel_rfl) hv h
  obtain ⟨s, e0, _, hs⟩ := DataW.trod_string Try.underlying9 h0
  obtain ⟨x, e1, _, _⟩ := DataW.trod_int Try.underlying2 h1
  obtain ⟨y, e2, _, _⟩ := DataW.trod_int Try.underlying2 h2
  simp at e0 e1 e2
  subst e0 e1 e2
  exact ⟨⟨s, x, y⟩, rfl, hs⟩

end Go.Proofs.Ytfkindkekjafnaa
