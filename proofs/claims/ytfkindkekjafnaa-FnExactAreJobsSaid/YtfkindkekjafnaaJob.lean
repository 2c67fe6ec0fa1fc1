/- The walks over jobs: szJob, szJobS. -/
import Derived.Test.YtfkindkekjafnaaMem
import Derived.Outline
import Derived.Laws.ResultCell
import Derived.Deep.DeepMust
namespace Go.Proofs.Ytfkindkekjafnaa
open Go.RowKit

structure Job where
  name : ByteArray
  min : Int
  due : Int
deriving Inhabited

/-- The three cells of a job. -/
def jcells (j : Job) : List Value := [.string j.name, .int .i64 j.min, .int .i64 j.due]
def jrow (L : List Job) : List Value := L.flatMap jcells
/-- The i-th job. -/
def jat (L : List Job) (i : Nat) : Job := L.getD i default

theorem jrow_len (L : List Job) : (jrow L).length = L.length * 3 := by
  induction L with
  | nil => rfl
  | cons a l ih => simp only [jrow, List.flatMap_cons, List.length_append] at *; rw [ih]; simp [jcells]; omega

theorem jrow_cons (a : Job) (L : List Job) : jrow (a :: L) = .string a.name :: .int .i64 a.min :: .int .i64 a.due :: jrow L := rfl
theorem jrow_at (L : List Job) : ∀ i, i < L.length → (jrow L)[i * 3]? = some (.string (jat L i).name) ∧ (jrow L)[i * 3 + 1]? = some (.int .i64 (jat L i).min) ∧ (jrow L)[i * 3 + 2]? = some (.int .i64 (jat L i).due) := by
  induction L with
  | nil => intro i h; simp at h
  | cons a l ih =>
    intro i h
    cases i with
    | zero => exact ⟨rfl, rfl, rfl⟩
    | succ i =>
      have := ih i (by simpa using h)
      rw [jrow_cons, show (i + 1) * 3 = i * 3 + 3 by omega]
      simpa [jat, List.getD] using this

theorem Rd.job {w : World} {B : Nat} {A : Option Addr} {L : List Job} (h : Rd w B 3 A L.length (jrow L)) {k : Nat} (hk : k < L.length) :
    ∃ g o, A = some ⟨g, o, none⟩ ∧ g < B ∧ w.cell? ⟨g, o + k * 3, none⟩ = some (.string (jat L k).name) ∧ w.cell? ⟨g, o + k * 3 + 1, none⟩ = some (.int .i64 (jat L k).min) ∧ w.cell? ⟨g, o + k * 3 + 2, none⟩ = some (.int .i64 (jat L k).due) := by
  obtain ⟨g, o, e, hg, hc⟩ := h.2 (by omega)
  obtain ⟨e0, e1, e2⟩ := jrow_at L k hk
  exact ⟨g, o, e, hg, hc _ _ e0, by rw [Nat.add_assoc]; exact hc _ _ e1, by rw [Nat.add_assoc]; exact hc _ _ e2⟩

def jagg (j : Job) : Value := .agg #[.string j.name, .int .i64 j.min, .int .i64 j.due]

def szI (n : Int) (k : Nat) : Int := if n < k then -1 else n - k
theorem szI_lo {n : Int} {k : Nat} (h : n < k) : szI n k = -1 := if_pos h
theorem szI_hi {n : Int} {k : Nat} (h : ¬ n < k) : szI n k = n - k := if_neg h

set_option maxHeartbeats 400000 in
theorem szJob_any (j : Job) (n : Int) (w : World) (hs : j.name.size ≤ maxLen) (h0 : 0 ≤ n) (h1 : n ≤ 1048576) :
    Calls Try.prog 19 #[.agg #[.string j.name, .int .i64 j.min, .int .i64 j.due], .int .i64 n] w fun e w' => e = .returned (.int .i64 (szI n j.name.size)) ∧ Below w.heap.size w w' := by
  unfold maxLen at hs
  by_cases h : n < j.name.size
  · have H := Lib.hid (szI_lo h)
    go_enter Try.func19, Try.ntmps19
    go_wp2
    go_ret
    exact ⟨retI H.out.symm, (Below.refl _ _).alloc (Nat.le_refl _) _⟩
  · have H := Lib.hid (szI_hi h)
    go_enter Try.func19, Try.ntmps19
    go_wp2
    go_ret
    exact ⟨retI H.out.symm, (Below.refl _ _).alloc (Nat.le_refl _) _⟩

/-- What is left is below 0, or there are at most so many. -/
def SzPost (k : Nat) (w : World) (e : Ending) (w' : World) : Prop := ∃ r : Int, e = .returned (.int .i64 r) ∧ r ≤ 1048576 ∧ (0 ≤ r → k ≤ 1048576) ∧ Below w.heap.size w w'

set_option maxHeartbeats 400000 in
theorem szJobS_any (L : List Job) (A : Option Addr) (c : Nat) (n : Int) (w : World) (hr : Rd w w.heap.size 3 A L.length (jrow L)) (hl : L.length ≤ c) (hc : c ≤ maxLen) (hs : ∀ i, i < L.length → (jat L i).name.size ≤ maxLen) (h0 : 0 ≤ n) (h1 : n ≤ 1048576) :
    Calls Try.prog 14 #[.slice A L.length c, .int .i64 n] w (SzPost L.length w) := by
  unfold maxLen at hc
  have Hr := Lib.hid hr
  have Hs := Lib.hid hs
  clear hr hs
  by_cases hn : n < L.length
  · go_enter Try.func14, Try.ntmps14
    go_wp2
    go_ret
    exact ⟨-1, rfl, by omega, by omega, Below.refl _ _⟩
  · go_enter Try.func14, Try.ntmps14
    go_wp2
    go_loopw [1, 5] (fun v i wr => ∃ (k : Nat) (m : Int), k ≤ L.length ∧ i = .int .i64 k ∧ 0 ≤ m ∧ m ≤ 1048576 ∧ v = .int .i64 m ∧ Below w.heap.size w wr) (fun _ i _ => L.length - (intOf i).toNat)
    case atStart => exact ⟨0, _, Nat.zero_le _, rfl, by omega, by omega, rfl, Below.refl _ _⟩
    case round =>
      obtain ⟨k, m, hk, rfl, hm0, hm1, rfl, hb⟩ := hrel
      by_cases hlt : k < L.length
      · obtain ⟨g, o, rfl, hg, c0, c1, c2⟩ := (Hr.out.below hb (Nat.le_refl _)).job hlt
        have hsz := hb.size
        by_cases hm : m < (jat L k).name.size
        · go_wp2_with fail
          refine (szJob_any (jat L k) m _ (Hs.out k hlt) hm0 hm1).mono ?_
          rw [szI_lo (by omega)]
          rintro e w1 ⟨rfl, hb1⟩
          go_wp2
          go_ret
          exact ⟨-1, rfl, by omega, by omega, hb.trans (hb1.mono hsz)⟩
        · go_wp2_with fail
          refine (szJob_any (jat L k) m _ (Hs.out k hlt) hm0 hm1).mono ?_
          rw [szI_hi (by omega)]
          rintro e w1 ⟨rfl, hb1⟩
          go_wp2
          go_roundw
          case rel => exact ⟨k + 1, _, by omega, by go_num, by omega, by omega, rfl, hb.trans (hb1.mono hsz)⟩
          case measure => simp [intOf]; omega
      · go_wp2
        go_ret
        exact ⟨m, rfl, by omega, by omega, hb⟩

end Go.Proofs.Ytfkindkekjafnaa
