/- The walks of ArePromises, in the program and in the reference. -/
import Derived.Test.YtgafjchbfbpmmaaPromiseS
import Derived.Test.YtgafjchbfbpmmaaWord
namespace Go.Proofs.Ytgafjchbfbpmmaa
open Go.RowKit

/-- The i-th job is as described, and no earlier one has its name. -/
def promiseOk (L : List Promise) (i : Nat) : Bool := isWord (promiseAt L i).name && inR (promiseAt L i).day 1 1000 && inR (promiseAt L i).min 1 2000 && (List.range i).all fun k => !decide ((promiseAt L k).name = (promiseAt L i).name)
def arePromises (L : List Promise) : Bool := decide (L.length ≤ 40) && (List.range L.length).all (promiseOk L)
theorem arePromises_long {L : List Promise} (h : 40 < L.length) : arePromises L = false := by
  simp only [arePromises, Bool.and_eq_false_iff]; exact .inl (by simpa using h)
theorem arePromises_bad {L : List Promise} {i : Nat} (hi : i < L.length) (h : promiseOk L i = false) : arePromises L = false := by
  simp only [arePromises, Bool.and_eq_false_iff, List.all_eq_false]
  exact .inr ⟨i, by simpa using hi, by simp [h]⟩
theorem arePromises_good {L : List Promise} (h1 : L.length ≤ 40) (h : ∀ i, i < L.length → promiseOk L i = true) : arePromises L = true := by
  simp only [arePromises, Bool.and_eq_true, decide_eq_true_eq, List.all_eq_true, List.mem_range]
  exact ⟨h1, h⟩
theorem arePromises_le {L : List Promise} (h : arePromises L = true) : L.length ≤ 40 := by
  simp only [arePromises, Bool.and_eq_true, decide_eq_true_eq] at h; exact h.1
theorem promiseOk_word {L : List Promise} {i : Nat} (h : isWord (promiseAt L i).name = false) : promiseOk L i = false := by simp [promiseOk, h]
theorem promiseOk_day {L : List Promise} {i : Nat} (h : inR (promiseAt L i).day 1 1000 = false) : promiseOk L i = false := by simp [promiseOk, h]
theorem promiseOk_min {L : List Promise} {i : Nat} (h : inR (promiseAt L i).min 1 2000 = false) : promiseOk L i = false := by simp [promiseOk, h]
theorem promiseOk_twin {L : List Promise} {i k : Nat} (hk : k < i) (h : (promiseAt L k).name = (promiseAt L i).name) : promiseOk L i = false := by
  simp only [promiseOk, Bool.and_eq_false_iff, List.all_eq_false]
  exact .inr ⟨k, by simpa using hk, by simp [h]⟩
theorem promiseOk_good {L : List Promise} {i : Nat} (h1 : isWord (promiseAt L i).name = true) (h2 : inR (promiseAt L i).day 1 1000 = true) (h3 : inR (promiseAt L i).min 1 2000 = true) (h4 : ∀ k, k < i → (promiseAt L k).name ≠ (promiseAt L i).name) : promiseOk L i = true := by
  simp only [promiseOk, Bool.and_eq_true, List.all_eq_true, List.mem_range]
  exact ⟨⟨⟨h1, h2⟩, h3⟩, fun k hk => by simp [h4 k hk]⟩

theorem isDay_any (n : Int) (w : World) :
    Calls Try.prog 61 #[.int .i64 n] w fun e w' => e = .returned (.bool (inR n 1 1000)) ∧ w = w' := by
  go_enter Try.func61, Try.ntmps61
  go_wp2_with (go_at_call 84; refine (within_any _ _ _ _).mono ?_; rintro e w2 ⟨rfl, rfl⟩)
  go_ret
  exact ⟨rfl, rfl⟩
theorem isWork_any (n : Int) (w : World) :
    Calls Try.prog 62 #[.int .i64 n] w fun e w' => e = .returned (.bool (inR n 1 2000)) ∧ w = w' := by
  go_enter Try.func62, Try.ntmps62
  go_wp2_with (go_at_call 84; refine (within_any _ _ _ _).mono ?_; rintro e w2 ⟨rfl, rfl⟩)
  go_ret
  exact ⟨rfl, rfl⟩

set_option maxHeartbeats 1600000 in
theorem implArePromises_any (w : World) (L : List Promise) (v : Value) (hv : Sl w 3 v L.length (promiseRow L)) (hs : promiseFit L) (_ : L.length ≤ 4194304) :
    Calls Try.prog 18 #[v] w (RetB (arePromises L) w) := by
  obtain ⟨A, c, rfl, hl, hc, hr⟩ := hv
  have Hr := Lib.hid hr
  have Hs := Lib.hid hs
  clear hr hs
  unfold maxLen at hc
  by_cases h40 : 40 < L.length
  · have H := Lib.hid (arePromises_long h40)
    go_enter Try.func18, Try.ntmps18
    go_wp2
    go_ret
    exact ⟨retB H.out.symm, Below.refl _ _⟩
  · go_enter Try.func18, Try.ntmps18
    go_wp2
    go_loopw [12] (fun i wr => ∃ q : Nat, q ≤ L.length ∧ i = .int .i64 q ∧ (∀ j, j < q → promiseOk L j = true) ∧ Below w.heap.size w wr) (fun i _ => L.length - (intOf i).toNat)
    case atStart => exact ⟨0, Nat.zero_le _, rfl, fun j h => absurd h (by omega), Below.refl _ _⟩
    case round =>
      obtain ⟨q, hq, rfl, hall, hb⟩ := hrel
      have Hall := Lib.hid hall
      clear hall
      have hsz := hb.size
      by_cases hlt : q < L.length
      · obtain ⟨g, o, rfl, hg, c0, c1, c2⟩ := (Hr.out.below hb (Nat.le_refl _)).promise hlt
        have hnm := Hs.out q hlt
        cases h1 : isWord (promiseAt L q).name
        · have H := Lib.hid (arePromises_bad hlt (promiseOk_word h1))
          go_wp2_with (first | (go_at_call 60; refine (implWord_any _ _ hnm).mono ?_; rintro e w2 ⟨rfl, rfl⟩) | (go_at_call 61; refine (isDay_any _ _).mono ?_; rintro e w2 ⟨rfl, rfl⟩) | (go_at_call 62; refine (isWork_any _ _).mono ?_; rintro e w2 ⟨rfl, rfl⟩))
          go_ret
          exact ⟨retB H.out.symm, hb.alloc hsz _⟩
        · cases h2 : inR (promiseAt L q).day 1 1000
          · have H := Lib.hid (arePromises_bad hlt (promiseOk_day h2))
            go_wp2_with (first | (go_at_call 60; refine (implWord_any _ _ hnm).mono ?_; rintro e w2 ⟨rfl, rfl⟩) | (go_at_call 61; refine (isDay_any _ _).mono ?_; rintro e w2 ⟨rfl, rfl⟩) | (go_at_call 62; refine (isWork_any _ _).mono ?_; rintro e w2 ⟨rfl, rfl⟩))
            go_ret
            exact ⟨retB H.out.symm, hb.alloc hsz _⟩
          · cases h3 : inR (promiseAt L q).min 1 2000
            · have H := Lib.hid (arePromises_bad hlt (promiseOk_min h3))
              go_wp2_with (first | (go_at_call 60; refine (implWord_any _ _ hnm).mono ?_; rintro e w2 ⟨rfl, rfl⟩) | (go_at_call 61; refine (isDay_any _ _).mono ?_; rintro e w2 ⟨rfl, rfl⟩) | (go_at_call 62; refine (isWork_any _ _).mono ?_; rintro e w2 ⟨rfl, rfl⟩))
              go_ret
              exact ⟨retB H.out.symm, hb.alloc hsz _⟩
            · go_wp2_with (first | (go_at_call 60; refine (implWord_any _ _ hnm).mono ?_; rintro e w2 ⟨rfl, rfl⟩) | (go_at_call 61; refine (isDay_any _ _).mono ?_; rintro e w2 ⟨rfl, rfl⟩) | (go_at_call 62; refine (isWork_any _ _).mono ?_; rintro e w2 ⟨rfl, rfl⟩))
              obtain ⟨wo, rfl⟩ : ∃ wo : World, wo = wr := ⟨_, rfl⟩
              go_loopw [37] (fun i wi => ∃ m : Nat, m ≤ q ∧ i = .int .i64 m ∧ (∀ j, j < m → (promiseAt L j).name ≠ (promiseAt L q).name) ∧ Below (wo.heap.size + 1) (wo.alloc (.cells #[.string (promiseAt L q).name, .int .i64 (promiseAt L q).day, .int .i64 (promiseAt L q).min] 43)) wi) (fun i _ => q - (intOf i).toNat)
              case atStart => exact ⟨0, Nat.zero_le _, rfl, fun j h => absurd h (by omega), Below.refl _ _⟩
              case round =>
                obtain ⟨m, hm, rfl, hne, hb2⟩ := hrel
                have Hne := Lib.hid hne
                clear hne
                have hsz2 := hb2.size
                have hj := (hb2.cell (p := ⟨wo.heap.size, 0, none⟩) (by simp)).trans (show _ = some (Value.string (promiseAt L q).name) by go_simp)
                rw [World.size_alloc] at hsz2
                have hj2 : ∀ o, (wr.alloc o).cell? ⟨wo.heap.size, 0, none⟩ = some (.string (promiseAt L q).name) := fun o => (World.cell?_alloc_lt _ _ _ (by show wo.heap.size < wr.heap.size; omega)).trans hj
                clear c0 c1 c2
                by_cases hlm : m < q
                · have hrm := (((Hr.out.below hb (Nat.le_refl _)).alloc hsz _).below hb2 (by omega)).promise (k := m) (by omega)
                  obtain ⟨g', o', hA, hg', d0, d1, d2⟩ := hrm
                  injection hA with hA
                  injection hA with hA1 hA2
                  subst hA1
                  subst hA2
                  by_cases he : (promiseAt L m).name = (promiseAt L q).name
                  · have H := Lib.hid (arePromises_bad hlt (promiseOk_twin hlm he))
                    have e := beq_str_of he
                    clear he
                    go_wp2
                    go_ret
                    exact ⟨retB H.out.symm, ((hb.alloc hsz _).trans (hb2.mono (by omega))).alloc (by omega) _⟩
                  · have H := Lib.hid he
                    have e := beq_str_ne he
                    clear he
                    go_wp2
                    go_roundw
                    case rel => exact ⟨m + 1, by omega, by go_num, fun j hj => by
                      by_cases e : j = m
                      · subst e; exact H.out
                      · exact Hne.out j (by omega), hb2.alloc (by omega) _⟩
                    case measure => simp [intOf]; omega
                · go_wp2
                  go_roundw
                  case rel => exact ⟨q + 1, by omega, by go_num, fun j hj => by
                    by_cases e : j = q
                    · subst e; exact promiseOk_good h1 h2 h3 (fun k hk => Hne.out k (by omega))
                    · exact Hall.out j (by omega), (hb.alloc hsz _).trans (hb2.mono (by omega))⟩
                  case measure => simp [intOf]; omega
      · have H := Lib.hid (arePromises_good (by omega) (fun j hj => Hall.out j (by omega)))
        go_wp2
        go_ret
        exact ⟨retB H.out.symm, hb⟩

theorem arePromises_len {L : List Promise} (h : ∀ i, i < L.length → promiseOk L i = true) : arePromises L = decide (L.length ≤ 40) := by
  by_cases h40 : L.length ≤ 40
  · rw [arePromises_good h40 h]; simp [h40]
  · rw [arePromises_long (by omega)]; simp [h40]


end Go.Proofs.Ytgafjchbfbpmmaa
