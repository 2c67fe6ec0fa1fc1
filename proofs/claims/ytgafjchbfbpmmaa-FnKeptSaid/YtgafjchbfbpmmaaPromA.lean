/- The reference's l23Is, l23Find, ArePromises. -/
import Derived.Test.YtgafjchbfbpmmaaProm
namespace Go.Proofs.Ytgafjchbfbpmmaa
open Go.RowKit

def promIx (L : List Promise) (c : ByteArray) : Option Nat := (List.range L.length).find? fun i => decide ((promiseAt L i).name = c)
theorem promIx_some {L : List Promise} {c : ByteArray} {i : Nat} : promIx L c = some i ↔ i < L.length ∧ (promiseAt L i).name = c ∧ ∀ j, j < i → (promiseAt L j).name ≠ c := by
  rw [promIx, List.find?_range_eq_some]
  simp only [decide_eq_true_eq, List.mem_range, Bool.not_eq_true', decide_eq_false_iff_not]
  constructor
  · rintro ⟨h1, h2, h3⟩; exact ⟨h2, h1, h3⟩
  · rintro ⟨h1, h2, h3⟩; exact ⟨h2, h1, h3⟩
theorem promIx_none {L : List Promise} {c : ByteArray} : promIx L c = none ↔ ∀ j, j < L.length → (promiseAt L j).name ≠ c := by
  rw [promIx, List.find?_range_eq_none]
  simp
/-- The index, or -1. -/
def ixI : Option Nat → Int
  | none => -1
  | some i => i
theorem promIx_self {L : List Promise} {q : Nat} (h : q < L.length) : ∃ m, promIx L (promiseAt L q).name = some m ∧ m ≤ q := by
  cases e : promIx L (promiseAt L q).name with
  | none => exact absurd rfl (promIx_none.1 e q h)
  | some m =>
    obtain ⟨h1, h2, h3⟩ := promIx_some.1 e
    exact ⟨m, rfl, Nat.le_of_not_lt fun hlt => h3 q hlt rfl⟩

def promB (p : Promise) : Bool := isWord p.name && inR p.day 1 1000 && inR p.min 1 2000
set_option maxHeartbeats 800000 in
theorem specProm_any (p : Promise) (w : World) (hs : p.name.size ≤ maxLen) :
    Calls Try.prog 58 #[.agg #[.string (p).name, .int .i64 (p).day, .int .i64 (p).min]] w (RetB (promB p) w) := by
  cases h1 : isWord p.name
  · have H := Lib.hid (show promB p = false by simp [promB, h1])
    go_enter Try.func58, Try.ntmps58
    go_wp2_with (first | (go_at_call 66; refine (specWord_any _ _ hs).mono ?_; rintro e w2 ⟨rfl, rfl⟩) | (go_at_call 67; refine (l01In_any _ _ _ _).mono ?_; rintro e w2 ⟨rfl, rfl⟩))
    go_ret
    exact ⟨retB H.out.symm, (Below.refl _ _).alloc (Nat.le_refl _) _⟩
  · cases h2 : inR p.day 1 1000
    · have H := Lib.hid (show promB p = false by simp [promB, h2])
      go_enter Try.func58, Try.ntmps58
      go_wp2_with (first | (go_at_call 66; refine (specWord_any _ _ hs).mono ?_; rintro e w2 ⟨rfl, rfl⟩) | (go_at_call 67; refine (l01In_any _ _ _ _).mono ?_; rintro e w2 ⟨rfl, rfl⟩))
      go_ret
      exact ⟨retB H.out.symm, (Below.refl _ _).alloc (Nat.le_refl _) _⟩
    · have H := Lib.hid (show promB p = inR p.min 1 2000 by simp [promB, h1, h2])
      go_enter Try.func58, Try.ntmps58
      go_wp2_with (first | (go_at_call 66; refine (specWord_any _ _ hs).mono ?_; rintro e w2 ⟨rfl, rfl⟩) | (go_at_call 67; refine (l01In_any _ _ _ _).mono ?_; rintro e w2 ⟨rfl, rfl⟩))
      go_ret
      exact ⟨retB H.out.symm, (Below.refl _ _).alloc (Nat.le_refl _) _⟩

set_option maxHeartbeats 1600000 in
theorem specFind_any (w : World) (L : List Promise) (v : Value) (s : ByteArray) (hv : Sl w 3 v L.length (promiseRow L)) (hn : L.length ≤ 4194304) :
    Calls Try.prog 59 #[v, .string s] w (RetI (ixI (promIx L s)) w) := by
  obtain ⟨A, c, rfl, hl, hc, hr⟩ := hv
  have Hr := Lib.hid hr
  clear hr
  unfold maxLen at hc
  go_enter Try.func59, Try.ntmps59
  go_wp2
  go_loopw [5] (fun i wr => ∃ q : Nat, q ≤ L.length ∧ i = .int .i64 q ∧ (∀ j, j < q → (promiseAt L j).name ≠ s) ∧ Below w.heap.size w wr) (fun i _ => L.length - (intOf i).toNat)
  case atStart => exact ⟨0, Nat.zero_le _, rfl, fun j h => absurd h (by omega), Below.refl _ _⟩
  case round =>
    obtain ⟨q, hq, rfl, hall, hb⟩ := hrel
    have Hall := Lib.hid hall
    clear hall
    have hsz := hb.size
    by_cases hlt : q < L.length
    · obtain ⟨g, o, rfl, hg, c0, c1, c2⟩ := (Hr.out.below hb (Nat.le_refl _)).promise hlt
      by_cases he : (promiseAt L q).name = s
      · have H := Lib.hid (promIx_some.2 ⟨hlt, he, Hall.out⟩)
        have e := beq_str_of he
        clear he
        go_wp2
        go_ret
        exact ⟨retI (by rw [H.out]; rfl), hb⟩
      · have H := Lib.hid he
        have e := beq_str_ne he
        clear he
        go_wp2
        go_roundw
        case rel => exact ⟨q + 1, by omega, by go_num, fun j hj => by
          by_cases e : j = q
          · subst e; exact H.out
          · exact Hall.out j (by omega), hb⟩
        case measure => simp [intOf]; omega
    · have H := Lib.hid (promIx_none.2 (fun j hj => Hall.out j (show j < q by omega)) : promIx L s = none)
      go_wp2
      go_ret
      exact ⟨retI (by rw [H.out]; rfl), hb⟩

theorem Sl.promise {w : World} {v : Value} {L : List Promise} (h : Sl w 3 v L.length (promiseRow L)) {k : Nat} (hk : k < L.length) :
    ∃ g o c, v = .slice (some ⟨g, o, none⟩) L.length c ∧ L.length ≤ c ∧ c ≤ 9223372036854775807 ∧ g < w.heap.size ∧ w.cell? ⟨g, o + k * 3, none⟩ = some (.string (promiseAt L k).name) ∧ w.cell? ⟨g, o + k * 3 + 1, none⟩ = some (.int .i64 (promiseAt L k).day) ∧ w.cell? ⟨g, o + k * 3 + 2, none⟩ = some (.int .i64 (promiseAt L k).min) := by
  obtain ⟨A, c, rfl, hl, hc, hr⟩ := h
  obtain ⟨g, o, rfl, hg, h⟩ := hr.promise hk
  unfold maxLen at hc
  exact ⟨g, o, c, rfl, hl, hc, hg, h⟩

set_option maxHeartbeats 1600000 in
theorem specArePromises_any (w : World) (L : List Promise) (v : Value) (hv : Sl w 3 v L.length (promiseRow L)) (hs : promiseFit L) (hn : L.length ≤ 4194304) :
    Calls Try.prog 16 #[v] w (RetB (arePromises L) w) := by
  have Hv := Lib.hid hv
  obtain ⟨A, c, rfl, hl, hc, hr⟩ := hv
  have Hr := Lib.hid hr
  have Hs := Lib.hid hs
  clear hr hs
  unfold maxLen at hc
  go_enter Try.func16, Try.ntmps16
  go_wp2
  go_loopw [3] (fun i wr => ∃ q : Nat, q ≤ L.length ∧ i = .int .i64 q ∧ (∀ j, j < q → promiseOk L j = true) ∧ Below w.heap.size w wr) (fun i _ => L.length - (intOf i).toNat)
  case atStart => exact ⟨0, Nat.zero_le _, rfl, fun j h => absurd h (by omega), Below.refl _ _⟩
  case round =>
    obtain ⟨q, hq, rfl, hall, hb⟩ := hrel
    have Hall := Lib.hid hall
    clear hall
    have hsz := hb.size
    by_cases hlt : q < L.length
    · obtain ⟨g, o, rfl, hg, c0, c1, c2⟩ := (Hr.out.below hb (Nat.le_refl _)).promise hlt
      have hnm := Hs.out q hlt
      cases h1 : promB (promiseAt L q)
      · have H := Lib.hid (arePromises_bad hlt (show promiseOk L q = false by simp only [promB] at h1; simp [promiseOk, h1]))
        go_wp2_with fail
        refine (specProm_any (promiseAt L q) wr hnm).mono ?_
        rintro e w2 ⟨rfl, hb2⟩
        rw [h1]
        go_wp2
        go_ret
        exact ⟨retB H.out.symm, hb.trans (hb2.mono hsz)⟩
      · obtain ⟨m, hm, hmq⟩ := promIx_self hlt
        have hb2' : ∀ w2, Below wr.heap.size wr w2 → Below w.heap.size w w2 := fun w2 h => hb.trans (h.mono hsz)
        have HB := Lib.hid hb2'
        have Hm := Lib.hid hm
        clear hb2' hm
        go_wp2_with fail
        refine (specProm_any (promiseAt L q) wr hnm).mono ?_
        rintro e w2 ⟨rfl, hb2⟩
        rw [h1]
        have d0 : w2.cell? ⟨g, o + q * 3, none⟩ = some (.string (promiseAt L q).name) := (hb2.cell (p := ⟨g, o + q * 3, none⟩) (by show g < wr.heap.size; omega)).trans c0
        go_wp2_with fail
        refine (specFind_any w2 L _ (promiseAt L q).name (Hv.out.below (HB.out w2 hb2)) hn).mono ?_
        rw [Hm.out]
        unfold ixI
        rintro e w3 ⟨rfl, hb3⟩
        have b3 := (HB.out w2 hb2).trans (hb3.mono (HB.out w2 hb2).size)
        by_cases hmq2 : m = q
        · subst hmq2
          have t1 : ((m : Int) != (m : Int)) = false := by simp
          go_wp2
          go_roundw
          case rel => exact ⟨m + 1, by omega, by go_num, fun j hj => by
            by_cases e : j = m
            · subst e
              simp only [promB, Bool.and_eq_true] at h1
              exact promiseOk_good h1.1.1 h1.1.2 h1.2 (fun k hk => (promIx_some.1 Hm.out).2.2 k hk)
            · exact Hall.out j (by omega), b3⟩
          case measure => simp [intOf]; omega
        · have H := Lib.hid (arePromises_bad hlt (promiseOk_twin (show m < q by omega) (promIx_some.1 Hm.out).2.1))
          have t1 : ((m : Int) != (q : Int)) = true := by simp; omega
          have T := Lib.hid hmq2
          clear hmq2
          go_wp2
          go_ret
          exact ⟨retB H.out.symm, b3⟩
    · have H := Lib.hid (arePromises_len (fun j hj => Hall.out j (by omega)))
      go_wp2
      go_ret
      exact ⟨retB (H.out.trans (decide_eq_decide.2 (by omega))).symm, hb⟩

end Go.Proofs.Ytgafjchbfbpmmaa
