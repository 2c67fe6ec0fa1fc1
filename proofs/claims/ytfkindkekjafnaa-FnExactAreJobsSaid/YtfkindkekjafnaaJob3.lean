/- The walks over jobs: eqJob, eqJobS, markText, markJobS, heldJobS. -/
import Derived.Test.YtfkindkekjafnaaJob2
import Derived.StillTactics
import Derived.Laws.Pointers
import Derived.Deep.RegionHeld3
import Derived.Laws.BytesString
namespace Go.Proofs.Ytfkindkekjafnaa
open Go.RowKit

set_option maxHeartbeats 400000 in
theorem eqJob_same (j : Job) (w : World) :
    Calls Try.prog 57 #[.agg #[.string j.name, .int .i64 j.min, .int .i64 j.due], .agg #[.string j.name, .int .i64 j.min, .int .i64 j.due]] w fun e w' => e = .returned (.bool true) ∧ Below w.heap.size w w' := by
  go_enter Try.func57, Try.ntmps57
  go_wp2
  go_ret
  exact ⟨rfl, ((Below.refl _ _).alloc (by simp) _).alloc (by simp) _⟩

set_option maxHeartbeats 400000 in
theorem eqJobS_same (L : List Job) (A A' : Option Addr) (c c' : Nat) (w : World) (hr : Rd w w.heap.size 3 A L.length (jrow L)) (hr' : Rd w w.heap.size 3 A' L.length (jrow L)) (hn : L.length ≤ 1048576) :
    Calls Try.prog 18 #[.slice A L.length c, .slice A' L.length c'] w fun e w' => e = .returned (.bool true) ∧ Below w.heap.size w w' := by
  have Hr := Lib.hid hr
  have Hr' := Lib.hid hr'
  clear hr hr'
  go_enter Try.func18, Try.ntmps18
  go_wp2
  go_loopw [5] (fun i wr => ∃ k : Nat, k ≤ L.length ∧ i = .int .i64 k ∧ Below w.heap.size w wr) (fun i _ => L.length - (intOf i).toNat)
  case atStart => exact ⟨0, Nat.zero_le _, rfl, Below.refl _ _⟩
  case round =>
    obtain ⟨k, hk, rfl, hb⟩ := hrel
    have hsz := hb.size
    by_cases hlt : k < L.length
    · obtain ⟨g, o, rfl, hg, c0, c1, c2⟩ := (Hr.out.below hb (Nat.le_refl _)).job hlt
      obtain ⟨g', o', rfl, hg', c0', c1', c2'⟩ := (Hr'.out.below hb (Nat.le_refl _)).job hlt
      have i0 : (0 : Int) ≤ (k : Int) := Int.natCast_nonneg _
      have i1 : (k : Int) < (L.length : Int) := by omega
      go_wp2_with fail
      go_region_held3 (fun w' => w'.cell? ⟨g, o + k * 3, none⟩ = some (.string (jat L k).name) ∧ w'.cell? ⟨g, o + k * 3 + 1, none⟩ = some (.int .i64 (jat L k).min) ∧ w'.cell? ⟨g, o + k * 3 + 2, none⟩ = some (.int .i64 (jat L k).due) ∧
          w'.cell? ⟨g', o' + k * 3, none⟩ = some (.string (jat L k).name) ∧ w'.cell? ⟨g', o' + k * 3 + 1, none⟩ = some (.int .i64 (jat L k).min) ∧ w'.cell? ⟨g', o' + k * 3 + 2, none⟩ = some (.int .i64 (jat L k).due))
        (first | (go_split_ands; refine ⟨?_, ?_, ?_, ?_, ?_, ?_⟩ <;> (rw [hb2.cell (by simp; omega)]; assumption)) | go_keep) ((go_at_call 57; refine (eqJob_same (jat L k) _).mono ?_; rintro e w2 ⟨rfl, hb2⟩))
      go_wp2
      go_roundw
      case rel => exact ⟨k + 1, by omega, by go_num, hb.drew.trans (hb2.mono hsz)⟩
      case measure => simp [intOf]; omega
    · go_wp2
      go_ret
      exact ⟨rfl, hb⟩

/-- The digits of k ahead of out. -/
def mdig : Nat → Nat → List UInt8 → List UInt8
  | 0, _, out => out
  | f + 1, k, out => if k = 0 then out else mdig f (k / 10) ((48 + UInt8.ofNat (k % 10)) :: out)
/-- The text of a mark of at least 1. -/
def markS (k : Nat) : ByteArray := ⟨(109 :: mdig k k []).toArray⟩

theorem mdig_zero (f : Nat) (l : List UInt8) : mdig f 0 l = l := by cases f <;> rfl
theorem mdig_succ (f m : Nat) (l : List UInt8) (h : m ≠ 0) : mdig (f + 1) m l = mdig f (m / 10) ((48 + UInt8.ofNat (m % 10)) :: l) := by simp [mdig, h]
theorem str_cons (c : UInt8) (l : List UInt8) : (⟨#[c]⟩ : ByteArray) ++ ⟨l.toArray⟩ = ⟨(c :: l).toArray⟩ := by
  apply ByteArray.ext; simp
theorem retS {a b : ByteArray} (h : a = b) : Ending.returned (.string a) = .returned (.string b) := by rw [h]
theorem valS {a b : ByteArray} (h : a = b) : Value.string a = .string b := by rw [h]

/-- A slice of one new byte, as a string. -/
theorem conv_one (W : World) (n : Int) : (convert 55 9 (.slice (some ⟨W.heap.size, 0, none⟩) 1 1)).run Try.prog (W.alloc (.cells #[.int .u8 n] 5)) = .ok (.string ⟨#[UInt8.ofNat n.toNat]⟩) (W.alloc (.cells #[.int .u8 n] 5)) := by
  rw [run_convert_bytes_string _ _ _ 5 _ _ _ Try.underlying55 Try.underlying5 Try.underlying9]
  have h : (loadCells ⟨W.heap.size, 0, none⟩ 1).run Try.prog (W.alloc (.cells #[.int .u8 n] 5)) = .ok ([n].map (Value.int .u8)).toArray (W.alloc (.cells #[.int .u8 n] 5)) := by
    simp [go_sem]
  rw [run_bytesToString _ _ _ _ [n] h]
  rfl

set_option maxHeartbeats 400000 in
theorem markText_any (k : Nat) (w : World) (h1 : 1 ≤ k) (h2 : k ≤ 1099511627776) :
    Calls Try.prog 58 #[.int .i64 k] w fun e w' => e = .returned (.string (markS k)) ∧ Below w.heap.size w w' := by
  have t0 : decide (k = 0) = false := by simp; omega
  go_enter Try.func58, Try.ntmps58
  go_wp2
  go_loopw [0, 3] (fun v s wr => ∃ (f m : Nat) (l : List UInt8), m ≤ f ∧ l.length + m ≤ k ∧ mdig f m l = mdig k k [] ∧ v = .int .i64 m ∧ s = .string ⟨l.toArray⟩ ∧ Below w.heap.size w wr) (fun v _ _ => (intOf v).toNat)
  case atStart => exact ⟨k, k, [], Nat.le_refl _, by simp, rfl, rfl, rfl, Below.refl _ _⟩
  case round =>
    obtain ⟨f, m, l, hm, hl, he, rfl, rfl, hb⟩ := hrel
    have He := Lib.hid he
    clear he
    have hcv := conv_one
    have hsz := hb.size
    by_cases hlt : 0 < m
    · go_wp2
      go_roundw
      case rel =>
        obtain ⟨f, rfl⟩ : ∃ f', f = f' + 1 := ⟨f - 1, by omega⟩
        exact ⟨f, m / 10, (48 + UInt8.ofNat (m % 10)) :: l, by omega, by simp; omega, by rw [← He.out, mdig_succ _ _ _ (by omega)], by go_num, valS (str_cons _ _), hb.alloc hsz _⟩
      case measure => simp [intOf]; omega
    · go_wp2
      go_ret
      have hm0 : m = 0 := by omega
      subst hm0
      have h3 := He.out
      rw [mdig_zero] at h3
      exact ⟨retS (by rw [str_cons, markS, ← h3]), hb⟩

/-- Jobs that bear marks from k on. -/
def jmk (k n : Nat) : List Job := (List.range n).map fun i => ⟨markS (k + 3 * i), ((k + 3 * i + 1 : Nat) : Int), ((k + 3 * i + 2 : Nat) : Int)⟩
theorem jmk_len (k n : Nat) : (jmk k n).length = n := by simp [jmk]
theorem jmk_at (k n i : Nat) (h : i < n) : jat (jmk k n) i = ⟨markS (k + 3 * i), ((k + 3 * i + 1 : Nat) : Int), ((k + 3 * i + 2 : Nat) : Int)⟩ := by
  simp [jat, jmk, List.getD, h]
theorem jmk_row (k n i : Nat) (h : i < n) : (jrow (jmk k n))[i * 3]? = some (.string (markS (k + 3 * i))) ∧ (jrow (jmk k n))[i * 3 + 1]? = some (.int .i64 ((k + 3 * i + 1 : Nat) : Int)) ∧ (jrow (jmk k n))[i * 3 + 2]? = some (.int .i64 ((k + 3 * i + 2 : Nat) : Int)) := by
  have := jrow_at (jmk k n) i (by rw [jmk_len]; exact h)
  rw [jmk_at _ _ _ h] at this
  exact this

set_option maxHeartbeats 400000 in
theorem markJobS_any (base n c k : Nat) (A : Option Addr) (xs : List Value) (w : World) (ho : w.ownsRow base 34 3 (.slice A n c) n xs) (hk1 : 1 ≤ k) (hk2 : k ≤ 1073741824) (hn : n ≤ 4194304) :
    Calls Try.prog 23 #[.slice A n c, .int .i64 k] w (MarkPost base 34 3 (.slice A n c) n (jrow (jmk k n)) ((k + 3 * n : Nat) : Int) w) := by
  have Ho := Lib.hid ho
  clear ho
  go_enter Try.func23, Try.ntmps23
  go_wp2
  go_loopw [1, 5] (fun v i wr => ∃ (m q : Nat) (ys : List Value), m = k + 3 * q ∧ q ≤ n ∧ v = .int .i64 m ∧ i = .int .i64 q ∧ wr.ownsRow base 34 3 (.slice A n c) n ys ∧ Pre ys (jrow (jmk k n)) (q * 3) ∧ w.grownBy wr (Value.slice A n c).ownBlock)
    (fun _ i _ => n - (intOf i).toNat)
  case atStart => exact ⟨k, 0, xs, by omega, Nat.zero_le _, rfl, rfl, Ho.out, Pre.zero _ _, gb_refl _ _⟩
  case round =>
    obtain ⟨m, q, ys, hm, hq, rfl, rfl, h1, hp, hg⟩ := hrel
    have hm1 : 1 ≤ m := by omega
    have hm2 : m ≤ 1099511627776 := by omega
    have Hm := Lib.hid hm
    have H1 := Lib.hid h1
    have Hp := Lib.hid hp
    have Hg := Lib.hid hg
    clear hm h1 hp hg
    by_cases hlt : q < n
    · obtain ⟨g, cc, hv, hb0, hglt⟩ := own_form H1.out (by omega)
      injection hv with hA hn' hc'
      subst hA
      clear hc' hn' cc
      go_wp2_with fail
      refine (markText_any m _ hm1 hm2).mono ?_
      rintro e w2 ⟨rfl, hb2⟩
      have ho2 := own_below H1.out hb2
      obtain ⟨x0, d0⟩ := own_cell ho2 (j := q * 3) (by omega)
      obtain ⟨x1, d1⟩ := own_cell ho2 (j := q * 3 + 1) (by omega)
      obtain ⟨x2, d2⟩ := own_cell ho2 (j := q * 3 + 2) (by omega)
      have f0 := ho2.frozenAt (q * 3)
      have f1 := ho2.frozenAt (q * 3 + 1)
      have f2 := ho2.frozenAt (q * 3 + 2)
      have Ho2 := Lib.hid ho2
      clear ho2
      go_wp2
      go_roundw
      case rel =>
        obtain ⟨r0, r1, r2⟩ := jmk_row k n q hlt
        have e0 := Hm.out
        subst e0
        have hlen := Ho2.out.1
        obtain ⟨s1, t1⟩ := Ho2.out.stored (q * 3) (.string (markS (k + 3 * q)))
        obtain ⟨s2, t2⟩ := s1.stored (q * 3 + 1) (.int .i64 ((k + 3 * q + 1 : Nat) : Int))
        obtain ⟨s3, t3⟩ := s2.stored (q * 3 + 2) (.int .i64 ((k + 3 * q + 2 : Nat) : Int))
        exact ⟨k + 3 * q + 3, q + 1, _, by omega, by omega, by go_num, by go_num, s3, Hp.out.set3 (by omega) r0 r1 r2, gb_trans (gb_trans (gb_trans (gb_below Hg.out hb2) t1) t2) t3⟩
      case measure => simp [intOf]; omega
    · go_wp2
      go_ret
      have hq2 : q = n := by omega
      subst hq2
      have e0 := Hm.out
      subst e0
      refine ⟨rfl, ?_, Hg.out⟩
      rw [← Hp.out.all H1.out.1 (by rw [jrow_len, jmk_len])]
      exact H1.out

end Go.Proofs.Ytfkindkekjafnaa
