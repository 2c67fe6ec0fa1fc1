/- Recipes: RemainingMinutes, ChangesOf: the rules; their walks in the program and in the reference. Printed by gen_recf.py. -/
import Derived.Test.YtecfkomijaakhaaRecE
namespace Go.Proofs.Ytecfkomijaakhaa
open Go.RowKit Go.Sort

def remSt (L : List Step) (D : List Int) : Nat → Option Int
  | 0 => some 0
  | k + 1 => match remSt L D k with
    | none => none
    | some s => if hasI D k = false then some (s + (stepAt L k).minutes) else if doneIn (stepAt L k) D = true then some s else none
theorem remSt_none {L : List Step} {D : List Int} {k : Nat} (h : remSt L D k = none) : ∀ n, k ≤ n → remSt L D n = none := by
  intro n hn
  induction n with
  | zero => obtain rfl : k = 0 := by omega
            exact h
  | succ n ih =>
    by_cases e : k = n + 1
    · rw [← e]; exact h
    · rw [remSt, ih (by omega)]
theorem remSt_add {L : List Step} {D : List Int} {k : Nat} {s : Int} (h : remSt L D k = some s) (hh : hasI D k = false) : remSt L D (k + 1) = some (s + (stepAt L k).minutes) := by simp [remSt, h, hh]
theorem remSt_ok {L : List Step} {D : List Int} {k : Nat} {s : Int} (h : remSt L D k = some s) (hh : hasI D k = true) (hd : doneIn (stepAt L k) D = true) : remSt L D (k + 1) = some s := by simp [remSt, h, hh, hd]
theorem remSt_no {L : List Step} {D : List Int} {k : Nat} {s : Int} (h : remSt L D k = some s) (hh : hasI D k = true) (hd : doneIn (stepAt L k) D = false) : remSt L D (k + 1) = none := by simp [remSt, h, hh, hd]
def remF (L : List Step) (D : List Int) : Int × Int := if isRecipe L = true then (if risesN L.length D = true then (match remSt L D L.length with | some s => (s, 0) | none => (0, 2)) else (0, 2)) else (0, 1)
theorem remF_bad {L : List Step} {D : List Int} (h : isRecipe L = false) : remF L D = (0, 1) := by simp [remF, h]
theorem remF_range {L : List Step} {D : List Int} (h : isRecipe L = true) (h2 : risesN L.length D = false) : remF L D = (0, 2) := by simp [remF, h, h2]
theorem remF_none {L : List Step} {D : List Int} (h : isRecipe L = true) {k : Nat} (hk : k ≤ L.length) (h2 : remSt L D k = none) : remF L D = (0, 2) := by
  rw [remF, if_pos h]
  split
  · rw [remSt_none h2 _ hk]
  · rfl
theorem remF_some {L : List Step} {D : List Int} (h : isRecipe L = true) (h1 : risesN L.length D = true) {s : Int} (h2 : remSt L D L.length = some s) : remF L D = (s, 0) := by simp [remF, h, h1, h2]

def chgN (L : List Step) (P : List Int) : Nat → Int
  | 0 => 0
  | k + 1 => chgN L P k + (if k = 0 then 0 else if (stepAt L (intsAt P k).toNat).tool ≠ (stepAt L (intsAt P (k - 1)).toNat).tool then 1 else 0)
theorem chgN_bd (L : List Step) (P : List Int) : ∀ k, 0 ≤ chgN L P k ∧ chgN L P k ≤ k
  | 0 => by simp [chgN]
  | k + 1 => by
    have := chgN_bd L P k
    rw [chgN]
    split
    · omega
    · split <;> omega
theorem chgN_eq {L : List Step} {P : List Int} {q a b : Nat} (ha : intsAt P q = a) (hb : intsAt P (q + 1) = b) (h : (stepAt L b).tool = (stepAt L a).tool) : chgN L P (q + 2) = chgN L P (q + 1) := by
  rw [chgN, if_neg (by omega), Nat.add_sub_cancel, ha, hb]
  simp [h]
theorem chgN_ne {L : List Step} {P : List Int} {q a b : Nat} (ha : intsAt P q = a) (hb : intsAt P (q + 1) = b) (h : ¬ (stepAt L b).tool = (stepAt L a).tool) : chgN L P (q + 2) = chgN L P (q + 1) + 1 := by
  rw [chgN, if_neg (by omega), Nat.add_sub_cancel, ha, hb]
  simp [h]
def changesF (L : List Step) (P : List Int) : Int × Int := if isRecipe L = true then (if ordOk L P = true then (chgN L P P.length, 0) else (0, 2)) else (0, 1)
theorem changesF_bad {L : List Step} {P : List Int} (h : isRecipe L = false) : changesF L P = (0, 1) := by simp [changesF, h]
theorem changesF_no {L : List Step} {P : List Int} (h : isRecipe L = true) (h2 : ordOk L P = false) : changesF L P = (0, 2) := by simp [changesF, h, h2]
theorem changesF_ok {L : List Step} {P : List Int} (h : isRecipe L = true) (h2 : ordOk L P = true) : changesF L P = (chgN L P P.length, 0) := by simp [changesF, h, h2]

theorem RetI.ok {r k : Int} {w w' : World} (h : r = k) (hb : Below w.heap.size w w') : RetI r w (.returned (.int .i64 k)) w' := by
  subst h; exact ⟨rfl, hb⟩

set_option maxHeartbeats 2000000 in
theorem implChg_any (w : World) (L : List Step) (V : Value) (P : List Int) (u : Value) (hv : Steps w V L) (h9 : L.length ≤ 9) (hP : ordOk L P = true) (hu : Sl w 1 u P.length (intsRow P)) :
    Calls Try.prog 69 #[V, u] w (RetI (chgN L P P.length) w) := by
  obtain ⟨hPl, hPi⟩ := ordOk_iff.1 hP
  obtain ⟨A, c, rfl, hl, hc, hr⟩ := hv
  obtain ⟨A', c', rfl, hl', hc', hr'⟩ := hu
  have Hr := Lib.hid hr
  have Hr' := Lib.hid hr'
  have HPi := Lib.hid hPi
  have hP9 : P.length ≤ 9 := by omega
  have HPl := Lib.hid hPl
  clear hr hr' hl hc hl' hc' hP hPi hPl
  go_enter Try.func69, Try.ntmps69
  go_wp2
  go_loopw [5, 6] (fun s i wr => ∃ k : Nat, 1 ≤ k ∧ (k ≤ P.length ∨ k = 1) ∧ i = .int .i64 k ∧ (s = .int .i64 (chgN L P k)) ∧ Below w.heap.size w wr) (fun _ i _ => P.length - (intOf i).toNat)
  case atStart => exact ⟨1, Nat.le_refl _, .inr rfl, rfl, rfl, Below.refl _ _⟩
  case round =>
    obtain ⟨k, hk1, hk2, rfl, rfl, hb⟩ := hrel
    have hcb := chgN_bd L P k
    by_cases hlt : k < P.length
    · obtain ⟨q, rfl⟩ : ∃ q, k = q + 1 := ⟨k - 1, by omega⟩
      obtain ⟨⟨p0, p1⟩, _, _⟩ := HPi.out (q + 1) hlt
      obtain ⟨⟨r0, r1⟩, _, _⟩ := HPi.out q (by omega)
      obtain ⟨b, hbe⟩ := Int.eq_ofNat_of_zero_le p0
      obtain ⟨a, hae⟩ := Int.eq_ofNat_of_zero_le r0
      obtain ⟨g, o, rfl, hg, c0⟩ := (Hr'.out.below hb (Nat.le_refl _)).ints hlt
      obtain ⟨g', o', hA, hg', c1⟩ := (Hr'.out.below hb (Nat.le_refl _)).ints (k := q) (by omega)
      injection hA with hA
      injection hA with hA1 hA2
      subst hA1
      subst hA2
      rw [hbe] at c0
      rw [hae] at c1
      have hb2 : b < L.length := by omega
      have ha2 : a < L.length := by omega
      obtain ⟨gs, os, rfl, hgs, d0, d1, B, cc, d2, _⟩ := (Hr.out.below hb).at hb2
      obtain ⟨gs', os', hA, hgs', e0, e1, B', cc', e2, _⟩ := (Hr.out.below hb).at ha2
      injection hA with hA
      injection hA with hA1 hA2
      subst hA1
      subst hA2
      have Hae := Lib.hid hae
      have Hbe := Lib.hid hbe
      have i1 : (q : Int) + 1 < (P.length : Int) := by omega
      have i2 : (0 : Int) ≤ (q : Int) := Int.natCast_nonneg _
      have i3 : (q : Int) < (P.length : Int) := by omega
      have i4 : (0 : Int) ≤ (q : Int) + 1 := by omega
      have j1 : (b : Int) < (L.length : Int) := by omega
      have j2 : (0 : Int) ≤ (b : Int) := Int.natCast_nonneg _
      have j3 : (a : Int) < (L.length : Int) := by omega
      have j4 : (0 : Int) ≤ (a : Int) := Int.natCast_nonneg _
      have x1 := IntWalk.i64_in ((q : Int) + 1) (by omega)
      have x2 := IntWalk.i64_in ((q : Int) + 1 - 1) (by omega)
      clear d0 d2 e0 e2 hbe hae p0 p1 r0 r1
      by_cases ht : (stepAt L b).tool = (stepAt L a).tool
      · have H := Lib.hid (chgN_eq Hae.out Hbe.out ht)
        have t0 : ((stepAt L b).tool != (stepAt L a).tool) = false := by simpa using ht
        clear ht
        go_wp2
        go_quiet (fail)
        go_wp2
        go_roundw
        case rel => exact ⟨q + 2, by omega, .inl (by omega), by go_num, by rw [H.out], below_drewN hb _⟩
        case measure => simp [intOf]; omega
      · have H := Lib.hid (chgN_ne Hae.out Hbe.out ht)
        have t0 : ((stepAt L b).tool != (stepAt L a).tool) = true := by simpa using ht
        clear ht
        go_wp2
        go_quiet (fail)
        go_wp2
        go_roundw
        case rel => exact ⟨q + 2, by omega, .inl (by omega), by go_num, by rw [H.out], below_drewN hb _⟩
        case measure => simp [intOf]; omega
    · have H := Lib.hid (show chgN L P P.length = chgN L P k by
        rcases hk2 with h | h
        · rw [show P.length = k by omega]
        · subst h
          rcases Nat.eq_zero_or_pos P.length with h0 | h0
          · rw [h0]; simp [chgN]
          · rw [show P.length = 1 by omega])
      go_wp2
      go_ret
      exact RetI.ok H.out hb

set_option maxHeartbeats 2000000 in
theorem specChg_any (w : World) (L : List Step) (V : Value) (P : List Int) (u : Value) (hv : Steps w V L) (h9 : L.length ≤ 9) (hP : ordOk L P = true) (hu : Sl w 1 u P.length (intsRow P)) :
    Calls Try.prog 68 #[V, u] w (RetI (chgN L P P.length) w) := by
  obtain ⟨hPl, hPi⟩ := ordOk_iff.1 hP
  obtain ⟨A, c, rfl, hl, hc, hr⟩ := hv
  obtain ⟨A', c', rfl, hl', hc', hr'⟩ := hu
  have Hr := Lib.hid hr
  have Hr' := Lib.hid hr'
  have HPi := Lib.hid hPi
  have hP9 : P.length ≤ 9 := by omega
  have HPl := Lib.hid hPl
  clear hr hr' hl hc hl' hc' hP hPi hPl
  go_enter Try.func68, Try.ntmps68
  go_wp2
  go_loopw [5, 6] (fun s i wr => ∃ k : Nat, 1 ≤ k ∧ (k ≤ P.length ∨ k = 1) ∧ i = .int .i64 k ∧ (s = .int .i64 (chgN L P k)) ∧ Below w.heap.size w wr) (fun _ i _ => P.length - (intOf i).toNat)
  case atStart => exact ⟨1, Nat.le_refl _, .inr rfl, rfl, rfl, Below.refl _ _⟩
  case round =>
    obtain ⟨k, hk1, hk2, rfl, rfl, hb⟩ := hrel
    have hcb := chgN_bd L P k
    by_cases hlt : k < P.length
    · obtain ⟨q, rfl⟩ : ∃ q, k = q + 1 := ⟨k - 1, by omega⟩
      obtain ⟨⟨p0, p1⟩, _, _⟩ := HPi.out (q + 1) hlt
      obtain ⟨⟨r0, r1⟩, _, _⟩ := HPi.out q (by omega)
      obtain ⟨b, hbe⟩ := Int.eq_ofNat_of_zero_le p0
      obtain ⟨a, hae⟩ := Int.eq_ofNat_of_zero_le r0
      obtain ⟨g, o, rfl, hg, c0⟩ := (Hr'.out.below hb (Nat.le_refl _)).ints hlt
      obtain ⟨g', o', hA, hg', c1⟩ := (Hr'.out.below hb (Nat.le_refl _)).ints (k := q) (by omega)
      injection hA with hA
      injection hA with hA1 hA2
      subst hA1
      subst hA2
      rw [hbe] at c0
      rw [hae] at c1
      have hb2 : b < L.length := by omega
      have ha2 : a < L.length := by omega
      obtain ⟨gs, os, rfl, hgs, d0, d1, B, cc, d2, _⟩ := (Hr.out.below hb).at hb2
      obtain ⟨gs', os', hA, hgs', e0, e1, B', cc', e2, _⟩ := (Hr.out.below hb).at ha2
      injection hA with hA
      injection hA with hA1 hA2
      subst hA1
      subst hA2
      have Hae := Lib.hid hae
      have Hbe := Lib.hid hbe
      have i1 : (q : Int) + 1 < (P.length : Int) := by omega
      have i2 : (0 : Int) ≤ (q : Int) := Int.natCast_nonneg _
      have i3 : (q : Int) < (P.length : Int) := by omega
      have i4 : (0 : Int) ≤ (q : Int) + 1 := by omega
      have j1 : (b : Int) < (L.length : Int) := by omega
      have j2 : (0 : Int) ≤ (b : Int) := Int.natCast_nonneg _
      have j3 : (a : Int) < (L.length : Int) := by omega
      have j4 : (0 : Int) ≤ (a : Int) := Int.natCast_nonneg _
      have x1 := IntWalk.i64_in ((q : Int) + 1) (by omega)
      have x2 := IntWalk.i64_in ((q : Int) + 1 - 1) (by omega)
      clear d0 d2 e0 e2 hbe hae p0 p1 r0 r1
      by_cases ht : (stepAt L b).tool = (stepAt L a).tool
      · have H := Lib.hid (chgN_eq Hae.out Hbe.out ht)
        have t0 : ((stepAt L b).tool != (stepAt L a).tool) = false := by simpa using ht
        clear ht
        go_wp2
        go_quiet (fail)
        go_wp2
        go_roundw
        case rel => exact ⟨q + 2, by omega, .inl (by omega), by go_num, by rw [H.out], below_drewN hb _⟩
        case measure => simp [intOf]; omega
      · have H := Lib.hid (chgN_ne Hae.out Hbe.out ht)
        have t0 : ((stepAt L b).tool != (stepAt L a).tool) = true := by simpa using ht
        clear ht
        go_wp2
        go_quiet (fail)
        go_wp2
        go_roundw
        case rel => exact ⟨q + 2, by omega, .inl (by omega), by go_num, by rw [H.out], below_drewN hb _⟩
        case measure => simp [intOf]; omega
    · have H := Lib.hid (show chgN L P P.length = chgN L P k by
        rcases hk2 with h | h
        · rw [show P.length = k by omega]
        · subst h
          rcases Nat.eq_zero_or_pos P.length with h0 | h0
          · rw [h0]; simp [chgN]
          · rw [show P.length = 1 by omega])
      go_wp2
      go_ret
      exact RetI.ok H.out hb

set_option maxHeartbeats 1600000 in
theorem implChangesOf_any (w : World) (L : List Step) (V : Value) (P : List Int) (u : Value) (hv : Steps w V L) (hn : L.length ≤ 1048576) (hu : Sl w 1 u P.length (intsRow P)) (_ : P.length ≤ 4194304) :
    Calls Try.prog 35 #[V, u] w (RetIC (changesF L P) w) := by
  have Hv := Lib.hid hv
  have Hu := Lib.hid hu
  clear hv hu
  cases h1 : isRecipe L
  · have H := Lib.hid (changesF_bad (P := P) h1)
    go_enter Try.func35, Try.ntmps35
    go_wp2_with fail
    refine (implIsRecipe_any w L _ Hv.out hn).mono ?_
    rintro e w2 ⟨rfl, hb2⟩
    rw [h1]
    go_wp2
    go_ret2
    exact RetIC.ok H.out hb2
  · obtain ⟨h9, hok, _⟩ := isRecipe_iff.1 h1
    have Hok := Lib.hid hok
    clear hok
    cases h2 : ordOk L P
    · have H := Lib.hid (changesF_no h1 h2)
      go_enter Try.func35, Try.ntmps35
      go_wp2_with fail
      refine (implIsRecipe_any w L _ Hv.out hn).mono ?_
      rintro e w2 ⟨rfl, hb2⟩
      rw [h1]
      go_wp2_with fail
      refine (implIsOrd_any w2 L _ P _ (Hv.out.below hb2) Hok.out h9 (Hu.out.below hb2)).mono ?_
      rintro e w3 ⟨rfl, hb3⟩
      have b3 := hb2.trans (hb3.mono hb2.size)
      rw [h2]
      go_wp2
      go_ret2
      exact RetIC.ok H.out b3
    · have H := Lib.hid (changesF_ok h1 h2)
      go_enter Try.func35, Try.ntmps35
      go_wp2_with fail
      refine (implIsRecipe_any w L _ Hv.out hn).mono ?_
      rintro e w2 ⟨rfl, hb2⟩
      rw [h1]
      go_wp2_with fail
      refine (implIsOrd_any w2 L _ P _ (Hv.out.below hb2) Hok.out h9 (Hu.out.below hb2)).mono ?_
      rintro e w3 ⟨rfl, hb3⟩
      have b3 := hb2.trans (hb3.mono hb2.size)
      rw [h2]
      go_wp2_with fail
      refine (implChg_any w3 L _ P _ (Hv.out.below b3) h9 h2 (Hu.out.below b3)).mono ?_
      rintro e w4 ⟨rfl, hb4⟩
      have b4 := b3.trans (hb4.mono b3.size)
      go_wp2
      go_ret2
      exact RetIC.ok H.out b4

set_option maxHeartbeats 1600000 in
theorem specChangesOf_any (w : World) (L : List Step) (V : Value) (P : List Int) (u : Value) (hv : Steps w V L) (hn : L.length ≤ 1048576) (hu : Sl w 1 u P.length (intsRow P)) (_ : P.length ≤ 4194304) :
    Calls Try.prog 34 #[V, u] w (RetIC (changesF L P) w) := by
  have Hv := Lib.hid hv
  have Hu := Lib.hid hu
  clear hv hu
  cases h1 : isRecipe L
  · have H := Lib.hid (changesF_bad (P := P) h1)
    go_enter Try.func34, Try.ntmps34
    go_wp2_with fail
    refine (specIsRecipe_any w L _ Hv.out hn).mono ?_
    rintro e w2 ⟨rfl, hb2⟩
    rw [h1]
    go_wp2
    go_ret2
    exact RetIC.ok H.out hb2
  · obtain ⟨h9, hok, _⟩ := isRecipe_iff.1 h1
    have Hok := Lib.hid hok
    clear hok
    cases h2 : ordOk L P
    · have H := Lib.hid (changesF_no h1 h2)
      go_enter Try.func34, Try.ntmps34
      go_wp2_with fail
      refine (specIsRecipe_any w L _ Hv.out hn).mono ?_
      rintro e w2 ⟨rfl, hb2⟩
      rw [h1]
      go_wp2_with fail
      refine (specIsOrd_any w2 L _ P _ (Hv.out.below hb2) hn (Hu.out.below hb2)).mono ?_
      rintro e w3 ⟨rfl, hb3⟩
      have b3 := hb2.trans (hb3.mono hb2.size)
      rw [h2]
      go_wp2
      go_ret2
      exact RetIC.ok H.out b3
    · have H := Lib.hid (changesF_ok h1 h2)
      go_enter Try.func34, Try.ntmps34
      go_wp2_with fail
      refine (specIsRecipe_any w L _ Hv.out hn).mono ?_
      rintro e w2 ⟨rfl, hb2⟩
      rw [h1]
      go_wp2_with fail
      refine (specIsOrd_any w2 L _ P _ (Hv.out.below hb2) hn (Hu.out.below hb2)).mono ?_
      rintro e w3 ⟨rfl, hb3⟩
      have b3 := hb2.trans (hb3.mono hb2.size)
      rw [h2]
      go_wp2_with fail
      refine (specChg_any w3 L _ P _ (Hv.out.below b3) h9 h2 (Hu.out.below b3)).mono ?_
      rintro e w4 ⟨rfl, hb4⟩
      have b4 := b3.trans (hb4.mono b3.size)
      go_wp2
      go_ret2
      exact RetIC.ok H.out b4

end Go.Proofs.Ytecfkomijaakhaa
