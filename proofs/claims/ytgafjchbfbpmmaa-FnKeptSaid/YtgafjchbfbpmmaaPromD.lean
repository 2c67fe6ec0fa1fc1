/- The walks of CanKeep, FirstBreach, FreeUntil, EarliestDay, MovePromise. Printed by gen_promd.py. -/
import Derived.Test.YtgafjchbfbpmmaaPromC
import Derived.Test.YtgafjchbfbpmmaaApp
namespace Go.Proofs.Ytgafjchbfbpmmaa
open Go.RowKit

set_option maxHeartbeats 1000000 in
theorem implCanKeep_any (w : World) (L : List Promise) (v : Value) (hv : Sl w 3 v L.length (promiseRow L)) (hf : promiseFit L) (hn : L.length ≤ 4194304) :
    Calls Try.prog 21 #[v] w (RetBC (canKeep L) w) := by
  have Hv := Lib.hid hv
  have Hf := Lib.hid hf
  clear hv hf
  cases h1 : arePromises L
  · have H := Lib.hid (show canKeep L = (false, 1) by simp [canKeep, h1])
    go_enter Try.func21, Try.ntmps21
    go_wp2_with fail
    refine (implArePromises_any w L v Hv.out Hf.out hn).mono ?_
    rintro e w2 ⟨rfl, hb2⟩
    rw [h1]
    go_wp2
    go_ret2
    exact RetBC.ok H.out hb2
  · have H := Lib.hid (show canKeep L = (firstBreach L == 0, 0) by simp [canKeep, h1])
    go_enter Try.func21, Try.ntmps21
    go_wp2_with fail
    refine (implArePromises_any w L v Hv.out Hf.out hn).mono ?_
    rintro e w2 ⟨rfl, hb2⟩
    rw [h1]
    go_wp2_with fail
    refine (implBreach_any w2 L v (Hv.out.below hb2) (promIn_of h1)).mono ?_
    rintro e w3 ⟨rfl, hb3⟩
    have b3 := hb2.trans (hb3.mono hb2.size)
    go_wp2
    go_ret2
    exact RetBC.ok H.out b3

set_option maxHeartbeats 1000000 in
theorem implFirstBreach_any (w : World) (L : List Promise) (v : Value) (hv : Sl w 3 v L.length (promiseRow L)) (hf : promiseFit L) (hn : L.length ≤ 4194304) :
    Calls Try.prog 23 #[v] w (RetIC (theBreach L) w) := by
  have Hv := Lib.hid hv
  have Hf := Lib.hid hf
  clear hv hf
  cases h1 : arePromises L
  · have H := Lib.hid (show theBreach L = (0, 1) by simp [theBreach, h1])
    go_enter Try.func23, Try.ntmps23
    go_wp2_with fail
    refine (implArePromises_any w L v Hv.out Hf.out hn).mono ?_
    rintro e w2 ⟨rfl, hb2⟩
    rw [h1]
    go_wp2
    go_ret2
    exact RetIC.ok H.out hb2
  · by_cases h0 : firstBreach L = 0
    · have H := Lib.hid (show theBreach L = (0, 4) by simp [theBreach, h1, h0])
      have H0 := Lib.hid h0
      clear h0
      go_enter Try.func23, Try.ntmps23
      go_wp2_with fail
      refine (implArePromises_any w L v Hv.out Hf.out hn).mono ?_
      rintro e w2 ⟨rfl, hb2⟩
      rw [h1]
      go_wp2_with fail
      refine (implBreach_any w2 L v (Hv.out.below hb2) (promIn_of h1)).mono ?_
      rintro e w3 ⟨rfl, hb3⟩
      rw [H0.out]
      have b3 := hb2.trans (hb3.mono hb2.size)
      go_wp2
      go_ret2
      exact RetIC.ok H.out b3
    · have H := Lib.hid (show theBreach L = (firstBreach L, 0) by simp [theBreach, h1, h0])
      have t0 : (firstBreach L == 0) = false := by simpa using h0
      have H0 := Lib.hid h0
      clear h0
      go_enter Try.func23, Try.ntmps23
      go_wp2_with fail
      refine (implArePromises_any w L v Hv.out Hf.out hn).mono ?_
      rintro e w2 ⟨rfl, hb2⟩
      rw [h1]
      go_wp2_with fail
      refine (implBreach_any w2 L v (Hv.out.below hb2) (promIn_of h1)).mono ?_
      rintro e w3 ⟨rfl, hb3⟩
      have b3 := hb2.trans (hb3.mono hb2.size)
      go_wp2
      go_ret2
      exact RetIC.ok H.out b3

set_option maxHeartbeats 1000000 in
theorem specCanKeep_any (w : World) (L : List Promise) (v : Value) (hv : Sl w 3 v L.length (promiseRow L)) (hf : promiseFit L) (hn : L.length ≤ 4194304) :
    Calls Try.prog 20 #[v] w (RetBC (canKeep L) w) := by
  have Hv := Lib.hid hv
  have Hf := Lib.hid hf
  clear hv hf
  cases h1 : arePromises L
  · have H := Lib.hid (show canKeep L = (false, 1) by simp [canKeep, h1])
    go_enter Try.func20, Try.ntmps20
    go_wp2_with fail
    refine (specArePromises_any w L v Hv.out Hf.out hn).mono ?_
    rintro e w2 ⟨rfl, hb2⟩
    rw [h1]
    go_wp2
    go_ret2
    exact RetBC.ok H.out hb2
  · have H := Lib.hid (show canKeep L = (firstBreach L == 0, 0) by simp [canKeep, h1])
    go_enter Try.func20, Try.ntmps20
    go_wp2_with fail
    refine (specArePromises_any w L v Hv.out Hf.out hn).mono ?_
    rintro e w2 ⟨rfl, hb2⟩
    rw [h1]
    go_wp2_with fail
    refine (specBreach_any w2 L v (Hv.out.below hb2) (promIn_of h1)).mono ?_
    rintro e w0 ⟨rfl, rfl⟩
    go_wp2
    go_ret2
    exact RetBC.ok H.out hb2

set_option maxHeartbeats 1000000 in
theorem specFirstBreach_any (w : World) (L : List Promise) (v : Value) (hv : Sl w 3 v L.length (promiseRow L)) (hf : promiseFit L) (hn : L.length ≤ 4194304) :
    Calls Try.prog 22 #[v] w (RetIC (theBreach L) w) := by
  have Hv := Lib.hid hv
  have Hf := Lib.hid hf
  clear hv hf
  cases h1 : arePromises L
  · have H := Lib.hid (show theBreach L = (0, 1) by simp [theBreach, h1])
    go_enter Try.func22, Try.ntmps22
    go_wp2_with fail
    refine (specArePromises_any w L v Hv.out Hf.out hn).mono ?_
    rintro e w2 ⟨rfl, hb2⟩
    rw [h1]
    go_wp2
    go_ret2
    exact RetIC.ok H.out hb2
  · by_cases h0 : firstBreach L = 0
    · have H := Lib.hid (show theBreach L = (0, 4) by simp [theBreach, h1, h0])
      have H0 := Lib.hid h0
      clear h0
      go_enter Try.func22, Try.ntmps22
      go_wp2_with fail
      refine (specArePromises_any w L v Hv.out Hf.out hn).mono ?_
      rintro e w2 ⟨rfl, hb2⟩
      rw [h1]
      go_wp2_with fail
      refine (specBreach_any w2 L v (Hv.out.below hb2) (promIn_of h1)).mono ?_
      rintro e w0 ⟨rfl, rfl⟩
      rw [H0.out]
      go_wp2
      go_ret2
      exact RetIC.ok H.out hb2
    · have H := Lib.hid (show theBreach L = (firstBreach L, 0) by simp [theBreach, h1, h0])
      have t0 : (firstBreach L == 0) = false := by simpa using h0
      have H0 := Lib.hid h0
      clear h0
      go_enter Try.func22, Try.ntmps22
      go_wp2_with fail
      refine (specArePromises_any w L v Hv.out Hf.out hn).mono ?_
      rintro e w2 ⟨rfl, hb2⟩
      rw [h1]
      go_wp2_with fail
      refine (specBreach_any w2 L v (Hv.out.below hb2) (promIn_of h1)).mono ?_
      rintro e w0 ⟨rfl, rfl⟩
      go_wp2
      go_ret2
      exact RetIC.ok H.out hb2

set_option maxHeartbeats 1000000 in
theorem specPromCode_any (w : World) (ok : Bool) (L : List Promise) (v : Value) (hv : Sl w 3 v L.length (promiseRow L)) (hf : promiseFit L) (hn : L.length ≤ 4194304) :
    Calls Try.prog 69 #[v, .bool ok] w (RetI (promCode L ok) w) := by
  have Hv := Lib.hid hv
  have Hf := Lib.hid hf
  clear hv hf
  rcases promCode_cases L ok with ⟨h1, h0⟩ | ⟨h1, h2, h0⟩ | ⟨h1, h2, h3, h0⟩ | ⟨h1, h2, h3, h0⟩
  · have H := Lib.hid h0
    clear h0
    go_enter Try.func69, Try.ntmps69
    go_wp2_with fail
    refine (specArePromises_any w L v Hv.out Hf.out hn).mono ?_
    rintro e w2 ⟨rfl, hb2⟩
    rw [h1]
    go_wp2
    go_ret
    exact ⟨retI H.out.symm, hb2⟩
  · have H := Lib.hid h0
    clear h0
    subst h2
    go_enter Try.func69, Try.ntmps69
    go_wp2_with fail
    refine (specArePromises_any w L v Hv.out Hf.out hn).mono ?_
    rintro e w2 ⟨rfl, hb2⟩
    rw [h1]
    go_wp2
    go_ret
    exact ⟨retI H.out.symm, hb2⟩
  · have H := Lib.hid h0
    clear h0
    subst h2
    go_enter Try.func69, Try.ntmps69
    go_wp2_with fail
    refine (specArePromises_any w L v Hv.out Hf.out hn).mono ?_
    rintro e w2 ⟨rfl, hb2⟩
    rw [h1]
    go_wp2_with fail
    refine (specBreach_any w2 L v (Hv.out.below hb2) (promIn_of h1)).mono ?_
    rintro e w0 ⟨rfl, rfl⟩
    go_wp2
    go_ret
    exact ⟨retI H.out.symm, hb2⟩
  · have H := Lib.hid h0
    clear h0
    subst h2
    go_enter Try.func69, Try.ntmps69
    go_wp2_with fail
    refine (specArePromises_any w L v Hv.out Hf.out hn).mono ?_
    rintro e w2 ⟨rfl, hb2⟩
    rw [h1]
    go_wp2_with fail
    refine (specBreach_any w2 L v (Hv.out.below hb2) (promIn_of h1)).mono ?_
    rintro e w0 ⟨rfl, rfl⟩
    go_wp2
    go_ret
    exact ⟨retI H.out.symm, hb2⟩

set_option maxHeartbeats 2000000 in
theorem implFreeUntil_any (w : World) (L : List Promise) (v : Value) (x : Int) (hv : Sl w 3 v L.length (promiseRow L)) (hf : promiseFit L) (hn : L.length ≤ 4194304) :
    Calls Try.prog 29 #[v, .int .i64 x] w (RetIC (free L x) w) := by
  have Hv := Lib.hid hv
  have Hf := Lib.hid hf
  clear hv hf
  rcases promCode_cases L (inR x 1 1000) with ⟨h1, h0⟩ | ⟨h1, h2, h0⟩ | ⟨h1, h2, h3, h0⟩ | ⟨h1, h2, h3, h0⟩
  · have H := Lib.hid (show free L x = (0, 1) by simp [free, h0])
    clear h0
    go_enter Try.func29, Try.ntmps29
    go_wp2_with fail
    refine (implArePromises_any w L v Hv.out Hf.out hn).mono ?_
    rintro e w2 ⟨rfl, hb2⟩
    rw [h1]
    go_wp2
    go_ret2
    exact RetIC.ok H.out hb2
  · have H := Lib.hid (show free L x = (0, 2) by simp [free, h0])
    clear h0
    go_enter Try.func29, Try.ntmps29
    go_wp2_with fail
    refine (implArePromises_any w L v Hv.out Hf.out hn).mono ?_
    rintro e w2 ⟨rfl, hb2⟩
    rw [h1]
    go_wp2_with fail
    refine (isDay_any _ _).mono ?_
    rintro e w0 ⟨rfl, rfl⟩
    rw [h2]
    go_wp2
    go_ret2
    exact RetIC.ok H.out hb2
  · have H := Lib.hid (show free L x = (0, 5) by simp [free, h0])
    clear h0
    go_enter Try.func29, Try.ntmps29
    go_wp2_with fail
    refine (implArePromises_any w L v Hv.out Hf.out hn).mono ?_
    rintro e w2 ⟨rfl, hb2⟩
    rw [h1]
    go_wp2_with fail
    refine (isDay_any _ _).mono ?_
    rintro e w0 ⟨rfl, rfl⟩
    rw [h2]
    go_wp2_with fail
    refine (implBreach_any w2 L v (Hv.out.below hb2) (promIn_of h1)).mono ?_
    rintro e w3 ⟨rfl, hb3⟩
    have b3 := hb2.trans (hb3.mono hb2.size)
    go_wp2
    go_ret2
    exact RetIC.ok H.out b3
  · have H := Lib.hid (show free L x = (freeUntil L x, 0) by simp [free, h0])
    obtain ⟨x1, x2⟩ := inR_iff.1 h2
    clear h0
    go_enter Try.func29, Try.ntmps29
    go_wp2_with fail
    refine (implArePromises_any w L v Hv.out Hf.out hn).mono ?_
    rintro e w2 ⟨rfl, hb2⟩
    rw [h1]
    go_wp2_with fail
    refine (isDay_any _ _).mono ?_
    rintro e w0 ⟨rfl, rfl⟩
    rw [h2]
    go_wp2_with fail
    refine (implBreach_any w2 L v (Hv.out.below hb2) (promIn_of h1)).mono ?_
    rintro e w3 ⟨rfl, hb3⟩
    have b3 := hb2.trans (hb3.mono hb2.size)
    go_wp2_with fail
    refine (implFree_any w3 L v x (Hv.out.below b3) (promIn_of h1) x1 x2).mono ?_
    rintro e w4 ⟨rfl, hb4⟩
    have b4 := b3.trans (hb4.mono b3.size)
    go_wp2
    go_ret2
    exact RetIC.ok H.out b4

set_option maxHeartbeats 2000000 in
theorem specFreeUntil_any (w : World) (L : List Promise) (v : Value) (x : Int) (hv : Sl w 3 v L.length (promiseRow L)) (hf : promiseFit L) (hn : L.length ≤ 4194304) :
    Calls Try.prog 28 #[v, .int .i64 x] w (RetIC (free L x) w) := by
  have Hv := Lib.hid hv
  have Hf := Lib.hid hf
  clear hv hf
  by_cases h0 : promCode L (inR x 1 1000) = 0
  · rcases promCode_cases L (inR x 1 1000) with ⟨_, h⟩ | ⟨_, _, h⟩ | ⟨_, _, _, h⟩ | ⟨h1, h2, h3, _⟩
    · omega
    · omega
    · omega
    have H := Lib.hid (show free L x = (freeUntil L x, 0) by simp [free, h0])
    obtain ⟨x1, x2⟩ := inR_iff.1 h2
    rw [h2] at h0
    go_enter Try.func28, Try.ntmps28
    go_wp2_with fail
    refine (l01In_any _ _ _ _).mono ?_
    rintro e w0 ⟨rfl, rfl⟩
    go_wp2_with fail
    refine (specPromCode_any w _ L v Hv.out Hf.out hn).mono ?_
    rintro e w2 ⟨rfl, hb2⟩
    rw [h0]
    clear h0
    go_wp2_with fail
    refine (specFree_any w2 L v x (Hv.out.below hb2) (promIn_of h1) x1 x2).mono ?_
    rintro e w3 ⟨rfl, hb3⟩
    have b3 := hb2.trans (hb3.mono hb2.size)
    go_wp2
    go_ret2
    exact RetIC.ok H.out b3
  · have H := Lib.hid (show free L x = (0, promCode L (inR x 1 1000)) by simp [free, h0])
    have t0 : (promCode L (inR x 1 1000) != 0) = true := by simpa using h0
    clear h0
    go_enter Try.func28, Try.ntmps28
    go_wp2_with fail
    refine (l01In_any _ _ _ _).mono ?_
    rintro e w0 ⟨rfl, rfl⟩
    go_wp2_with fail
    refine (specPromCode_any w _ L v Hv.out Hf.out hn).mono ?_
    rintro e w2 ⟨rfl, hb2⟩
    go_wp2
    go_ret2
    exact RetIC.ok H.out hb2

set_option maxHeartbeats 2000000 in
theorem implEarliestDay_any (w : World) (L : List Promise) (v : Value) (x : Int) (hv : Sl w 3 v L.length (promiseRow L)) (hf : promiseFit L) (hn : L.length ≤ 4194304) :
    Calls Try.prog 31 #[v, .int .i64 x] w (RetIC (theDay L x) w) := by
  have Hv := Lib.hid hv
  have Hf := Lib.hid hf
  clear hv hf
  rcases promCode_cases L (inR x 1 2000) with ⟨h1, h0⟩ | ⟨h1, h2, h0⟩ | ⟨h1, h2, h3, h0⟩ | ⟨h1, h2, h3, h0⟩
  · have H := Lib.hid (show theDay L x = (0, 1) by simp [theDay, h0])
    clear h0
    go_enter Try.func31, Try.ntmps31
    go_wp2_with fail
    refine (implArePromises_any w L v Hv.out Hf.out hn).mono ?_
    rintro e w2 ⟨rfl, hb2⟩
    rw [h1]
    go_wp2
    go_ret2
    exact RetIC.ok H.out hb2
  · have H := Lib.hid (show theDay L x = (0, 2) by simp [theDay, h0])
    clear h0
    go_enter Try.func31, Try.ntmps31
    go_wp2_with fail
    refine (implArePromises_any w L v Hv.out Hf.out hn).mono ?_
    rintro e w2 ⟨rfl, hb2⟩
    rw [h1]
    go_wp2_with fail
    refine (isWork_any _ _).mono ?_
    rintro e w0 ⟨rfl, rfl⟩
    rw [h2]
    go_wp2
    go_ret2
    exact RetIC.ok H.out hb2
  · have H := Lib.hid (show theDay L x = (0, 5) by simp [theDay, h0])
    clear h0
    go_enter Try.func31, Try.ntmps31
    go_wp2_with fail
    refine (implArePromises_any w L v Hv.out Hf.out hn).mono ?_
    rintro e w2 ⟨rfl, hb2⟩
    rw [h1]
    go_wp2_with fail
    refine (isWork_any _ _).mono ?_
    rintro e w0 ⟨rfl, rfl⟩
    rw [h2]
    go_wp2_with fail
    refine (implBreach_any w2 L v (Hv.out.below hb2) (promIn_of h1)).mono ?_
    rintro e w3 ⟨rfl, hb3⟩
    have b3 := hb2.trans (hb3.mono hb2.size)
    go_wp2
    go_ret2
    exact RetIC.ok H.out b3
  · have H := Lib.hid (show theDay L x = (((earliest L x : Nat) : Int), 0) by simp [theDay, h0])
    have hL := promIn_of h1
    have hlast := free_last hL
    obtain ⟨x1, x2⟩ := inR_iff.1 h2
    have HL := Lib.hid hL
    clear hL
    clear h0
    go_enter Try.func31, Try.ntmps31
    go_wp2_with fail
    refine (implArePromises_any w L v Hv.out Hf.out hn).mono ?_
    rintro e w2 ⟨rfl, hb2⟩
    rw [h1]
    go_wp2_with fail
    refine (isWork_any _ _).mono ?_
    rintro e w0 ⟨rfl, rfl⟩
    rw [h2]
    go_wp2_with fail
    refine (implBreach_any w2 L v (Hv.out.below hb2) (promIn_of h1)).mono ?_
    rintro e w3 ⟨rfl, hb3⟩
    have b3 := hb2.trans (hb3.mono hb2.size)
    go_wp2
    go_loopw [6] (fun i wr => ∃ n d : Nat, n + d = 1000 ∧ 1 ≤ d ∧ i = .int .i64 d ∧ earliestGo L x n d = earliest L x ∧ Below w.heap.size w wr) (fun i _ => 1000 - (intOf i).toNat)
    case atStart => exact ⟨999, 1, rfl, by omega, rfl, rfl, b3⟩
    case round =>
      obtain ⟨n, d, hnd, hd1, rfl, he, hb⟩ := hrel
      have He := Lib.hid he
      have hsz := hb.size
      clear he
      have hd2 : d ≤ 1000 := by omega
      by_cases hf : freeUntil L d < x
      · have hdlt : d < 1000 := by
          rcases Nat.lt_or_ge d 1000 with h | h
          · exact h
          · have e : d = 1000 := by omega
            subst e
            have : freeUntil L (1000 : Int) < x := hf
            omega
        have Hd := Lib.hid hnd
        clear hnd
        go_wp2_with fail
        refine (implFree_any wr L v d (Hv.out.below hb) HL.out (by omega) (by omega)).mono ?_
        rintro e w9 ⟨rfl, hb9⟩
        go_wp2
        go_roundw
        case rel =>
          have hn : n = (n - 1) + 1 := by have := Hd.out; omega
          have he := He.out
          rw [hn] at he
          exact ⟨n - 1, d + 1, by have := Hd.out; omega, by omega, by go_num, earliest_step he hf, hb.trans (hb9.mono hsz)⟩
        case measure => simp [intOf]; omega
      · have E := Lib.hid (earliest_stop He.out hf)
        go_wp2_with fail
        refine (implFree_any wr L v d (Hv.out.below hb) HL.out (by omega) (by omega)).mono ?_
        rintro e w9 ⟨rfl, hb9⟩
        go_wp2
        go_ret2
        exact RetIC.ok (by rw [H.out, E.out]) (hb.trans (hb9.mono hsz))

set_option maxHeartbeats 2000000 in
theorem specEarliestDay_any (w : World) (L : List Promise) (v : Value) (x : Int) (hv : Sl w 3 v L.length (promiseRow L)) (hf : promiseFit L) (hn : L.length ≤ 4194304) :
    Calls Try.prog 30 #[v, .int .i64 x] w (RetIC (theDay L x) w) := by
  have Hv := Lib.hid hv
  have Hf := Lib.hid hf
  clear hv hf
  by_cases h0 : promCode L (inR x 1 2000) = 0
  · rcases promCode_cases L (inR x 1 2000) with ⟨_, h⟩ | ⟨_, _, h⟩ | ⟨_, _, _, h⟩ | ⟨h1, h2, h3, _⟩
    · omega
    · omega
    · omega
    have H := Lib.hid (show theDay L x = (((earliest L x : Nat) : Int), 0) by simp [theDay, h0])
    have hL := promIn_of h1
    have hlast := free_last hL
    obtain ⟨x1, x2⟩ := inR_iff.1 h2
    have HL := Lib.hid hL
    clear hL
    rw [h2] at h0
    go_enter Try.func30, Try.ntmps30
    go_wp2_with fail
    refine (l01In_any _ _ _ _).mono ?_
    rintro e w0 ⟨rfl, rfl⟩
    go_wp2_with fail
    refine (specPromCode_any w _ L v Hv.out Hf.out hn).mono ?_
    rintro e w2 ⟨rfl, hb2⟩
    rw [h0]
    clear h0
    go_wp2
    go_loopw [7] (fun i wr => ∃ n d : Nat, n + d = 1000 ∧ 1 ≤ d ∧ i = .int .i64 d ∧ earliestGo L x n d = earliest L x ∧ Below w.heap.size w wr) (fun i _ => 1000 - (intOf i).toNat)
    case atStart => exact ⟨999, 1, rfl, by omega, rfl, rfl, hb2⟩
    case round =>
      obtain ⟨n, d, hnd, hd1, rfl, he, hb⟩ := hrel
      have He := Lib.hid he
      have hsz := hb.size
      clear he
      have hd2 : d ≤ 1000 := by omega
      by_cases hf : freeUntil L d < x
      · have hdlt : d < 1000 := by
          rcases Nat.lt_or_ge d 1000 with h | h
          · exact h
          · have e : d = 1000 := by omega
            subst e
            have : freeUntil L (1000 : Int) < x := hf
            omega
        have Hd := Lib.hid hnd
        clear hnd
        go_wp2_with fail
        refine (specFree_any wr L v d (Hv.out.below hb) HL.out (by omega) (by omega)).mono ?_
        rintro e w9 ⟨rfl, hb9⟩
        go_wp2
        go_roundw
        case rel =>
          have hn : n = (n - 1) + 1 := by have := Hd.out; omega
          have he := He.out
          rw [hn] at he
          exact ⟨n - 1, d + 1, by have := Hd.out; omega, by omega, by go_num, earliest_step he hf, hb.trans (hb9.mono hsz)⟩
        case measure => simp [intOf]; omega
      · have E := Lib.hid (earliest_stop He.out hf)
        go_wp2_with fail
        refine (specFree_any wr L v d (Hv.out.below hb) HL.out (by omega) (by omega)).mono ?_
        rintro e w9 ⟨rfl, hb9⟩
        go_wp2
        go_ret2
        exact RetIC.ok (by rw [H.out, E.out]) (hb.trans (hb9.mono hsz))
  · have H := Lib.hid (show theDay L x = (0, promCode L (inR x 1 2000)) by simp [theDay, h0])
    have t0 : (promCode L (inR x 1 2000) != 0) = true := by simpa using h0
    clear h0
    go_enter Try.func30, Try.ntmps30
    go_wp2_with fail
    refine (l01In_any _ _ _ _).mono ?_
    rintro e w0 ⟨rfl, rfl⟩
    go_wp2_with fail
    refine (specPromCode_any w _ L v Hv.out Hf.out hn).mono ?_
    rintro e w2 ⟨rfl, hb2⟩
    go_wp2
    go_ret2
    exact RetIC.ok H.out hb2

end Go.Proofs.Ytgafjchbfbpmmaa
