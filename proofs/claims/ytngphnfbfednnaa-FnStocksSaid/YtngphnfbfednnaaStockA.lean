/- The walks of IsStock and of the search for a bin, in the program and in the reference. Printed by gen_stock.py. -/
import Derived.Test.YtngphnfbfednnaaStock
import Derived.IntWalk
namespace Go.Proofs.Ytngphnfbfednnaa
open Go.RowKit

/-- The index of a bin, or -1. -/
def ixI : Option Nat → Int
  | none => -1
  | some i => i

set_option maxHeartbeats 2000000 in
theorem implIsStock_any (w : World) (L : List Bin) (v : Value) (hv : Sl w 5 v L.length (binRow L)) (hs : binFit L) (hn : L.length ≤ 4194304) :
    Calls Try.prog 18 #[v] w (RetB (isStock L) w) := by
  obtain ⟨A, c, rfl, hl, hc, hr⟩ := hv
  have Hr := Lib.hid hr
  have Hs := Lib.hid hs
  clear hr hs
  unfold maxLen at hc
  by_cases h20 : 20 < L.length
  · have H := Lib.hid (isStock_long h20)
    go_enter Try.func18, Try.ntmps18
    go_wp2
    go_ret
    exact ⟨retB H.out.symm, Below.refl _ _⟩
  · skip
    go_enter Try.func18, Try.ntmps18
    go_wp2
    go_loopw [10] (fun i wr => ∃ q : Nat, q ≤ L.length ∧ i = .int .i64 q ∧ (∀ j, j < q → stockOk L j = true) ∧ Below w.heap.size w wr) (fun i _ => L.length - (intOf i).toNat)
    case atStart => exact ⟨0, Nat.zero_le _, rfl, fun j h => absurd h (by omega), Below.refl _ _⟩
    case round =>
      obtain ⟨q, hq, rfl, hall, hb⟩ := hrel
      have Hall := Lib.hid hall
      clear hall
      have hsz := hb.size
      by_cases hlt : q < L.length
      · obtain ⟨g, o, rfl, hg, c0, c1, c2, c3, c4⟩ := (Hr.out.below hb (Nat.le_refl _)).bin hlt
        have hnm := Hs.out q hlt
        cases h1 : isWord (binAt L q).code
        · have H := Lib.hid (isStock_bad hlt (stockOk_word h1))
          go_wp2_with (first | (go_at_call 62; refine (implWord_any _ _ hnm).mono ?_; rintro e w2 ⟨rfl, rfl⟩) | (go_at_call 63; refine (within_any _ _ _ _).mono ?_; rintro e w2 ⟨rfl, rfl⟩))
          go_ret
          exact ⟨retB H.out.symm, hb.alloc hsz _⟩
        · skip
          cases h2 : inR (binAt L q).amount 0 100000
          · have H := Lib.hid (isStock_bad hlt (stockOk_amount h2))
            go_wp2_with (first | (go_at_call 62; refine (implWord_any _ _ hnm).mono ?_; rintro e w2 ⟨rfl, rfl⟩) | (go_at_call 63; refine (within_any _ _ _ _).mono ?_; rintro e w2 ⟨rfl, rfl⟩))
            go_ret
            exact ⟨retB H.out.symm, hb.alloc hsz _⟩
          · skip
            cases h3 : inR (binAt L q).reserved 0 (binAt L q).amount
            · have H := Lib.hid (isStock_bad hlt (stockOk_reserved h3))
              go_wp2_with (first | (go_at_call 62; refine (implWord_any _ _ hnm).mono ?_; rintro e w2 ⟨rfl, rfl⟩) | (go_at_call 63; refine (within_any _ _ _ _).mono ?_; rintro e w2 ⟨rfl, rfl⟩))
              go_ret
              exact ⟨retB H.out.symm, hb.alloc hsz _⟩
            · skip
              cases h4 : inR (binAt L q).point 0 100000
              · have H := Lib.hid (isStock_bad hlt (stockOk_point h4))
                go_wp2_with (first | (go_at_call 62; refine (implWord_any _ _ hnm).mono ?_; rintro e w2 ⟨rfl, rfl⟩) | (go_at_call 63; refine (within_any _ _ _ _).mono ?_; rintro e w2 ⟨rfl, rfl⟩))
                go_ret
                exact ⟨retB H.out.symm, hb.alloc hsz _⟩
              · skip
                cases h5 : inR (binAt L q).lot 1 100000
                · have H := Lib.hid (isStock_bad hlt (stockOk_lot h5))
                  go_wp2_with (first | (go_at_call 62; refine (implWord_any _ _ hnm).mono ?_; rintro e w2 ⟨rfl, rfl⟩) | (go_at_call 63; refine (within_any _ _ _ _).mono ?_; rintro e w2 ⟨rfl, rfl⟩))
                  go_ret
                  exact ⟨retB H.out.symm, hb.alloc hsz _⟩
                · skip
                  by_cases h0 : q = 0
                  · have t0 : decide ((0 : Int) < (q : Int)) = false := by simp; omega
                    have t1 : decide (0 < q) = false := by simp; omega
                    have H0 := Lib.hid h0
                    clear h0
                    go_wp2_with (first | (go_at_call 62; refine (implWord_any _ _ hnm).mono ?_; rintro e w2 ⟨rfl, rfl⟩) | (go_at_call 63; refine (within_any _ _ _ _).mono ?_; rintro e w2 ⟨rfl, rfl⟩))
                    go_quiet (fail)
                    go_wp2
                    go_roundw
                    case rel => exact ⟨q + 1, by omega, by go_num, fun j hj => by
                      by_cases e : j = q
                      · subst e; exact stockOk_good h1 h2 h3 h4 h5 (fun h => absurd H0.out (by omega))
                      · exact Hall.out j (by omega), below_drewN (hb.alloc hsz _) _⟩
                    case measure => simp [intOf]; omega
                  · have h0 : 0 < q := by omega
                    have t0 : decide ((0 : Int) < (q : Int)) = true := by simp; omega
                    have t1 : decide (0 < q) = true := by simp; omega
                    obtain ⟨g', o', hA, hg', d0, d1, d2, d3, d4⟩ := (Hr.out.below hb (Nat.le_refl _)).bin (k := q - 1) (by omega)
                    injection hA with hA
                    injection hA with hA1 hA2
                    subst hA1
                    subst hA2
                    clear d1 d2 d3 d4
                    have d0' : ∀ u, (wr.alloc u).cell? ⟨g, o + (q - 1) * 5, none⟩ = some (.string (binAt L (q - 1)).code) := fun u => (World.cell?_alloc_lt _ _ _ (by show g < wr.heap.size; omega)).trans d0
                    have i1 : (1 : Int) ≤ (q : Int) := by omega
                    have i2 : (q : Int) - 1 < (L.length : Int) := by omega
                    have i3 : IntKind.i64.wrap ((q : Int) - 1) = (q : Int) - 1 := IntWalk.i64_in _ (by omega)
                    have i4 : ((q : Int) - 1).toNat = q - 1 := by omega
                    cases hU : Op.bytesLess (binAt L (q - 1)).code.toList (binAt L q).code.toList
                    · have H := Lib.hid (isStock_bad hlt (stockOk_up h0 hU))
                      go_wp2_with (first | (go_at_call 62; refine (implWord_any _ _ hnm).mono ?_; rintro e w2 ⟨rfl, rfl⟩) | (go_at_call 63; refine (within_any _ _ _ _).mono ?_; rintro e w2 ⟨rfl, rfl⟩))
                      go_quiet (fail)
                      go_wp2
                      go_ret
                      exact ⟨retB H.out.symm, below_drewN (hb.alloc hsz _) _⟩
                    · go_wp2_with (first | (go_at_call 62; refine (implWord_any _ _ hnm).mono ?_; rintro e w2 ⟨rfl, rfl⟩) | (go_at_call 63; refine (within_any _ _ _ _).mono ?_; rintro e w2 ⟨rfl, rfl⟩))
                      go_quiet (fail)
                      go_wp2
                      clear i3 i4
                      go_roundw
                      case rel => exact ⟨q + 1, by omega, by go_num, fun j hj => by
                        by_cases e : j = q
                        · subst e; exact stockOk_good h1 h2 h3 h4 h5 (fun _ => hU)
                        · exact Hall.out j (by omega), below_drewN (hb.alloc hsz _) _⟩
                      case measure => simp [intOf]; omega
      · have H := Lib.hid (isStock_good (by omega) (fun j hj => Hall.out j (by omega)))
        go_wp2
        go_ret
        exact ⟨retB H.out.symm, hb⟩

set_option maxHeartbeats 2000000 in
theorem specIsStock_any (w : World) (L : List Bin) (v : Value) (hv : Sl w 5 v L.length (binRow L)) (hs : binFit L) (hn : L.length ≤ 4194304) :
    Calls Try.prog 16 #[v] w (RetB (isStock L) w) := by
  obtain ⟨A, c, rfl, hl, hc, hr⟩ := hv
  have Hr := Lib.hid hr
  have Hs := Lib.hid hs
  clear hr hs
  unfold maxLen at hc
  go_enter Try.func16, Try.ntmps16
  go_wp2
  go_loopw [3] (fun i wr => ∃ q : Nat, q ≤ L.length ∧ i = .int .i64 q ∧ (∀ j, j < q → stockOk L j = true) ∧ Below w.heap.size w wr) (fun i _ => L.length - (intOf i).toNat)
  case atStart => exact ⟨0, Nat.zero_le _, rfl, fun j h => absurd h (by omega), Below.refl _ _⟩
  case round =>
    obtain ⟨q, hq, rfl, hall, hb⟩ := hrel
    have Hall := Lib.hid hall
    clear hall
    have hsz := hb.size
    by_cases hlt : q < L.length
    · obtain ⟨g, o, rfl, hg, c0, c1, c2, c3, c4⟩ := (Hr.out.below hb (Nat.le_refl _)).bin hlt
      have hnm := Hs.out q hlt
      cases h1 : isWord (binAt L q).code
      · have H := Lib.hid (isStock_bad hlt (stockOk_word h1))
        go_wp2_with (first | (go_at_call 59; refine (specWord_any _ _ hnm).mono ?_; rintro e w2 ⟨rfl, rfl⟩) | (go_at_call 60; refine (l01In_any _ _ _ _).mono ?_; rintro e w2 ⟨rfl, rfl⟩))
        go_ret
        exact ⟨retB H.out.symm, hb.alloc hsz _⟩
      · skip
        cases h2 : inR (binAt L q).amount 0 100000
        · have H := Lib.hid (isStock_bad hlt (stockOk_amount h2))
          go_wp2_with (first | (go_at_call 59; refine (specWord_any _ _ hnm).mono ?_; rintro e w2 ⟨rfl, rfl⟩) | (go_at_call 60; refine (l01In_any _ _ _ _).mono ?_; rintro e w2 ⟨rfl, rfl⟩))
          go_ret
          exact ⟨retB H.out.symm, hb.alloc hsz _⟩
        · skip
          cases h3 : inR (binAt L q).reserved 0 (binAt L q).amount
          · have H := Lib.hid (isStock_bad hlt (stockOk_reserved h3))
            go_wp2_with (first | (go_at_call 59; refine (specWord_any _ _ hnm).mono ?_; rintro e w2 ⟨rfl, rfl⟩) | (go_at_call 60; refine (l01In_any _ _ _ _).mono ?_; rintro e w2 ⟨rfl, rfl⟩))
            go_ret
            exact ⟨retB H.out.symm, hb.alloc hsz _⟩
          · skip
            cases h4 : inR (binAt L q).point 0 100000
            · have H := Lib.hid (isStock_bad hlt (stockOk_point h4))
              go_wp2_with (first | (go_at_call 59; refine (specWord_any _ _ hnm).mono ?_; rintro e w2 ⟨rfl, rfl⟩) | (go_at_call 60; refine (l01In_any _ _ _ _).mono ?_; rintro e w2 ⟨rfl, rfl⟩))
              go_ret
              exact ⟨retB H.out.symm, hb.alloc hsz _⟩
            · skip
              cases h5 : inR (binAt L q).lot 1 100000
              · have H := Lib.hid (isStock_bad hlt (stockOk_lot h5))
                go_wp2_with (first | (go_at_call 59; refine (specWord_any _ _ hnm).mono ?_; rintro e w2 ⟨rfl, rfl⟩) | (go_at_call 60; refine (l01In_any _ _ _ _).mono ?_; rintro e w2 ⟨rfl, rfl⟩))
                go_ret
                exact ⟨retB H.out.symm, hb.alloc hsz _⟩
              · skip
                by_cases h0 : q = 0
                · have t0 : decide ((0 : Int) < (q : Int)) = false := by simp; omega
                  have t1 : decide (0 < q) = false := by simp; omega
                  have H0 := Lib.hid h0
                  clear h0
                  go_wp2_with (first | (go_at_call 59; refine (specWord_any _ _ hnm).mono ?_; rintro e w2 ⟨rfl, rfl⟩) | (go_at_call 60; refine (l01In_any _ _ _ _).mono ?_; rintro e w2 ⟨rfl, rfl⟩))
                  go_quiet (fail)
                  go_wp2
                  go_roundw
                  case rel => exact ⟨q + 1, by omega, by go_num, fun j hj => by
                    by_cases e : j = q
                    · subst e; exact stockOk_good h1 h2 h3 h4 h5 (fun h => absurd H0.out (by omega))
                    · exact Hall.out j (by omega), below_drewN (hb.alloc hsz _) _⟩
                  case measure => simp [intOf]; omega
                · have h0 : 0 < q := by omega
                  have t0 : decide ((0 : Int) < (q : Int)) = true := by simp; omega
                  have t1 : decide (0 < q) = true := by simp; omega
                  obtain ⟨g', o', hA, hg', d0, d1, d2, d3, d4⟩ := (Hr.out.below hb (Nat.le_refl _)).bin (k := q - 1) (by omega)
                  injection hA with hA
                  injection hA with hA1 hA2
                  subst hA1
                  subst hA2
                  clear d1 d2 d3 d4
                  have d0' : ∀ u, (wr.alloc u).cell? ⟨g, o + (q - 1) * 5, none⟩ = some (.string (binAt L (q - 1)).code) := fun u => (World.cell?_alloc_lt _ _ _ (by show g < wr.heap.size; omega)).trans d0
                  have i1 : (1 : Int) ≤ (q : Int) := by omega
                  have i2 : (q : Int) - 1 < (L.length : Int) := by omega
                  have i3 : IntKind.i64.wrap ((q : Int) - 1) = (q : Int) - 1 := IntWalk.i64_in _ (by omega)
                  have i4 : ((q : Int) - 1).toNat = q - 1 := by omega
                  cases hU : Op.bytesLess (binAt L (q - 1)).code.toList (binAt L q).code.toList
                  · have H := Lib.hid (isStock_bad hlt (stockOk_up h0 hU))
                    go_wp2_with (first | (go_at_call 59; refine (specWord_any _ _ hnm).mono ?_; rintro e w2 ⟨rfl, rfl⟩) | (go_at_call 60; refine (l01In_any _ _ _ _).mono ?_; rintro e w2 ⟨rfl, rfl⟩))
                    go_quiet (fail)
                    go_wp2
                    go_ret
                    exact ⟨retB H.out.symm, below_drewN (hb.alloc hsz _) _⟩
                  · go_wp2_with (first | (go_at_call 59; refine (specWord_any _ _ hnm).mono ?_; rintro e w2 ⟨rfl, rfl⟩) | (go_at_call 60; refine (l01In_any _ _ _ _).mono ?_; rintro e w2 ⟨rfl, rfl⟩))
                    go_quiet (fail)
                    go_wp2
                    clear i3 i4
                    go_roundw
                    case rel => exact ⟨q + 1, by omega, by go_num, fun j hj => by
                      by_cases e : j = q
                      · subst e; exact stockOk_good h1 h2 h3 h4 h5 (fun _ => hU)
                      · exact Hall.out j (by omega), below_drewN (hb.alloc hsz _) _⟩
                    case measure => simp [intOf]; omega
    · have H := Lib.hid (isStock_len (fun j hj => Hall.out j (by omega)))
      go_wp2
      go_ret
      exact ⟨retB (H.out.trans (decide_eq_decide.2 (by omega))).symm, hb⟩

set_option maxHeartbeats 1600000 in
theorem implFind_any (w : World) (L : List Bin) (v : Value) (s : ByteArray) (hv : Sl w 5 v L.length (binRow L)) (hn : L.length ≤ 4194304) :
    Calls Try.prog 68 #[v, .string s] w (RetI (ixI (binIx L s)) w) := by
  obtain ⟨A, c, rfl, hl, hc, hr⟩ := hv
  have Hr := Lib.hid hr
  clear hr
  unfold maxLen at hc
  go_enter Try.func68, Try.ntmps68
  go_wp2
  go_loopw [9] (fun i wr => ∃ q : Nat, q ≤ L.length ∧ i = .int .i64 q ∧ (∀ j, j < q → (binAt L j).code ≠ s) ∧ Below w.heap.size w wr) (fun i _ => L.length - (intOf i).toNat)
  case atStart => exact ⟨0, Nat.zero_le _, rfl, fun j h => absurd h (by omega), Below.refl _ _⟩
  case round =>
    obtain ⟨q, hq, rfl, hall, hb⟩ := hrel
    have Hall := Lib.hid hall
    clear hall
    have hsz := hb.size
    by_cases hlt : q < L.length
    · obtain ⟨g, o, rfl, hg, c0, c1, c2, c3, c4⟩ := (Hr.out.below hb (Nat.le_refl _)).bin hlt
      by_cases he : (binAt L q).code = s
      · have H := Lib.hid (binIx_some.2 ⟨hlt, he, Hall.out⟩)
        have e := beq_str_of he
        clear he
        go_wp2
        go_ret
        exact ⟨retI (by rw [H.out]; rfl), hb.alloc hsz _⟩
      · have H := Lib.hid he
        have e := beq_str_ne he
        clear he
        go_wp2
        go_roundw
        case rel => exact ⟨q + 1, by omega, by go_num, fun j hj => by
          by_cases e : j = q
          · subst e; exact H.out
          · exact Hall.out j (by omega), hb.alloc hsz _⟩
        case measure => simp [intOf]; omega
    · have H := Lib.hid (binIx_none.2 (fun j hj => Hall.out j (show j < q by omega)) : binIx L s = none)
      go_wp2
      go_ret
      exact ⟨retI (by rw [H.out]; rfl), hb⟩

set_option maxHeartbeats 1600000 in
theorem specFind_any (w : World) (L : List Bin) (v : Value) (s : ByteArray) (hv : Sl w 5 v L.length (binRow L)) (hn : L.length ≤ 4194304) :
    Calls Try.prog 67 #[v, .string s] w (RetI (ixI (binIx L s)) w) := by
  obtain ⟨A, c, rfl, hl, hc, hr⟩ := hv
  have Hr := Lib.hid hr
  clear hr
  unfold maxLen at hc
  go_enter Try.func67, Try.ntmps67
  go_wp2
  go_loopw [5] (fun i wr => ∃ q : Nat, q ≤ L.length ∧ i = .int .i64 q ∧ (∀ j, j < q → (binAt L j).code ≠ s) ∧ Below w.heap.size w wr) (fun i _ => L.length - (intOf i).toNat)
  case atStart => exact ⟨0, Nat.zero_le _, rfl, fun j h => absurd h (by omega), Below.refl _ _⟩
  case round =>
    obtain ⟨q, hq, rfl, hall, hb⟩ := hrel
    have Hall := Lib.hid hall
    clear hall
    have hsz := hb.size
    by_cases hlt : q < L.length
    · obtain ⟨g, o, rfl, hg, c0, c1, c2, c3, c4⟩ := (Hr.out.below hb (Nat.le_refl _)).bin hlt
      by_cases he : (binAt L q).code = s
      · have H := Lib.hid (binIx_some.2 ⟨hlt, he, Hall.out⟩)
        have e := beq_str_of he
        clear he
        go_wp2
        go_ret
        exact ⟨retI (by rw [H.out]; rfl), hb⟩
      · have H := Lib.hid he
        have e := beq_str_ne he
        clear he
        go_wp2
        go_roundw
        case rel => exact ⟨q + 1, by omega, by go_num, fun j hj => by
          by_cases e : j = q
          · subst e; exact H.out
          · exact Hall.out j (by omega), hb⟩
        case measure => simp [intOf]; omega
    · have H := Lib.hid (binIx_none.2 (fun j hj => Hall.out j (show j < q by omega)) : binIx L s = none)
      go_wp2
      go_ret
      exact ⟨retI (by rw [H.out]; rfl), hb⟩

end Go.Proofs.Ytngphnfbfednnaa
