/- The walks of AreJobs, in the program and in the reference. -/
import Derived.Test.YtfkindkekjafnaaJobS
import Derived.Test.YtfkindkekjafnaaWord
namespace Go.Proofs.Ytfkindkekjafnaa
open Go.RowKit

/-- The i-th job is as described, and no earlier one has its name. -/
def jobOk (L : List Job) (i : Nat) : Bool := isWord (jobAt L i).name && inR (jobAt L i).min 1 1000 && inR (jobAt L i).due 0 100000 && (List.range i).all fun k => !decide ((jobAt L k).name = (jobAt L i).name)
def areJobs (L : List Job) : Bool := decide (L.length ≤ 7) && (List.range L.length).all (jobOk L)
theorem areJobs_long {L : List Job} (h : 7 < L.length) : areJobs L = false := by
  simp only [areJobs, Bool.and_eq_false_iff]; exact .inl (by simpa using h)
theorem areJobs_bad {L : List Job} {i : Nat} (hi : i < L.length) (h : jobOk L i = false) : areJobs L = false := by
  simp only [areJobs, Bool.and_eq_false_iff, List.all_eq_false]
  exact .inr ⟨i, by simpa using hi, by simp [h]⟩
theorem areJobs_good {L : List Job} (h1 : L.length ≤ 7) (h : ∀ i, i < L.length → jobOk L i = true) : areJobs L = true := by
  simp only [areJobs, Bool.and_eq_true, decide_eq_true_eq, List.all_eq_true, List.mem_range]
  exact ⟨h1, h⟩
theorem areJobs_le {L : List Job} (h : areJobs L = true) : L.length ≤ 7 := by
  simp only [areJobs, Bool.and_eq_true, decide_eq_true_eq] at h; exact h.1
theorem jobOk_word {L : List Job} {i : Nat} (h : isWord (jobAt L i).name = false) : jobOk L i = false := by simp [jobOk, h]
theorem jobOk_min {L : List Job} {i : Nat} (h : inR (jobAt L i).min 1 1000 = false) : jobOk L i = false := by simp [jobOk, h]
theorem jobOk_due {L : List Job} {i : Nat} (h : inR (jobAt L i).due 0 100000 = false) : jobOk L i = false := by simp [jobOk, h]
theorem jobOk_twin {L : List Job} {i k : Nat} (hk : k < i) (h : (jobAt L k).name = (jobAt L i).name) : jobOk L i = false := by
  simp only [jobOk, Bool.and_eq_false_iff, List.all_eq_false]
  exact .inr ⟨k, by simpa using hk, by simp [h]⟩
theorem jobOk_good {L : List Job} {i : Nat} (h1 : isWord (jobAt L i).name = true) (h2 : inR (jobAt L i).min 1 1000 = true) (h3 : inR (jobAt L i).due 0 100000 = true) (h4 : ∀ k, k < i → (jobAt L k).name ≠ (jobAt L i).name) : jobOk L i = true := by
  simp only [jobOk, Bool.and_eq_true, List.all_eq_true, List.mem_range]
  exact ⟨⟨⟨h1, h2⟩, h3⟩, fun k hk => by simp [h4 k hk]⟩

set_option maxHeartbeats 1600000 in
theorem implAreJobs_any (w : World) (L : List Job) (v : Value) (hv : Sl w 3 v L.length (jobRow L)) (hs : jobFit L) (_ : L.length ≤ 4194304) :
    Calls Try.prog 17 #[v] w (RetB (areJobs L) w) := by
  obtain ⟨A, c, rfl, hl, hc, hr⟩ := hv
  have Hr := Lib.hid hr
  have Hs := Lib.hid hs
  clear hr hs
  unfold maxLen at hc
  by_cases h7 : 7 < L.length
  · have H := Lib.hid (areJobs_long h7)
    go_enter Try.func17, Try.ntmps17
    go_wp2
    go_ret
    exact ⟨retB H.out.symm, Below.refl _ _⟩
  · go_enter Try.func17, Try.ntmps17
    go_wp2
    go_loopw [12] (fun i wr => ∃ q : Nat, q ≤ L.length ∧ i = .int .i64 q ∧ (∀ j, j < q → jobOk L j = true) ∧ Below w.heap.size w wr) (fun i _ => L.length - (intOf i).toNat)
    case atStart => exact ⟨0, Nat.zero_le _, rfl, fun j h => absurd h (by omega), Below.refl _ _⟩
    case round =>
      obtain ⟨q, hq, rfl, hall, hb⟩ := hrel
      have Hall := Lib.hid hall
      clear hall
      have hsz := hb.size
      by_cases hlt : q < L.length
      · obtain ⟨g, o, rfl, hg, c0, c1, c2⟩ := (Hr.out.below hb (Nat.le_refl _)).job hlt
        have hnm := Hs.out q hlt
        cases h1 : isWord (jobAt L q).name
        · have H := Lib.hid (areJobs_bad hlt (jobOk_word h1))
          go_wp2_with (first | (go_at_call 55; refine (implWord_any _ _ hnm).mono ?_; rintro e w2 ⟨rfl, rfl⟩) | (go_at_call 56; refine (within_any _ _ _ _).mono ?_; rintro e w2 ⟨rfl, rfl⟩))
          go_ret
          exact ⟨retB H.out.symm, hb.alloc hsz _⟩
        · cases h2 : inR (jobAt L q).min 1 1000
          · have H := Lib.hid (areJobs_bad hlt (jobOk_min h2))
            go_wp2_with (first | (go_at_call 55; refine (implWord_any _ _ hnm).mono ?_; rintro e w2 ⟨rfl, rfl⟩) | (go_at_call 56; refine (within_any _ _ _ _).mono ?_; rintro e w2 ⟨rfl, rfl⟩))
            go_ret
            exact ⟨retB H.out.symm, hb.alloc hsz _⟩
          · cases h3 : inR (jobAt L q).due 0 100000
            · have H := Lib.hid (areJobs_bad hlt (jobOk_due h3))
              go_wp2_with (first | (go_at_call 55; refine (implWord_any _ _ hnm).mono ?_; rintro e w2 ⟨rfl, rfl⟩) | (go_at_call 56; refine (within_any _ _ _ _).mono ?_; rintro e w2 ⟨rfl, rfl⟩))
              go_ret
              exact ⟨retB H.out.symm, hb.alloc hsz _⟩
            · go_wp2_with (first | (go_at_call 55; refine (implWord_any _ _ hnm).mono ?_; rintro e w2 ⟨rfl, rfl⟩) | (go_at_call 56; refine (within_any _ _ _ _).mono ?_; rintro e w2 ⟨rfl, rfl⟩))
              obtain ⟨wo, rfl⟩ : ∃ wo : World, wo = wr := ⟨_, rfl⟩
              go_loopw [37] (fun i wi => ∃ m : Nat, m ≤ q ∧ i = .int .i64 m ∧ (∀ j, j < m → (jobAt L j).name ≠ (jobAt L q).name) ∧ Below (wo.heap.size + 1) (wo.alloc (.cells #[.string (jobAt L q).name, .int .i64 (jobAt L q).min, .int .i64 (jobAt L q).due] 34)) wi) (fun i _ => q - (intOf i).toNat)
              case atStart => exact ⟨0, Nat.zero_le _, rfl, fun j h => absurd h (by omega), Below.refl _ _⟩
              case round =>
                obtain ⟨m, hm, rfl, hne, hb2⟩ := hrel
                have Hne := Lib.hid hne
                clear hne
                have hsz2 := hb2.size
                have hj := (hb2.cell (p := ⟨wo.heap.size, 0, none⟩) (by simp)).trans (show _ = some (Value.string (jobAt L q).name) by go_simp)
                rw [World.size_alloc] at hsz2
                have hj2 : ∀ o, (wr.alloc o).cell? ⟨wo.heap.size, 0, none⟩ = some (.string (jobAt L q).name) := fun o => (World.cell?_alloc_lt _ _ _ (by show wo.heap.size < wr.heap.size; omega)).trans hj
                clear c0 c1 c2
                by_cases hlm : m < q
                · have hrm := (((Hr.out.below hb (Nat.le_refl _)).alloc hsz _).below hb2 (by omega)).job (k := m) (by omega)
                  obtain ⟨g', o', hA, hg', d0, d1, d2⟩ := hrm
                  injection hA with hA
                  injection hA with hA1 hA2
                  subst hA1
                  subst hA2
                  by_cases he : (jobAt L m).name = (jobAt L q).name
                  · have H := Lib.hid (areJobs_bad hlt (jobOk_twin hlm he))
                    have e := beq_str_of he
                    clear he
                    go_wp2
                    go_ret
                    exact ⟨retB H.out.symm, ((hb.alloc hsz _).trans (hb2.mono (by omega))).alloc (by omega) _⟩
                  · have H := Lib.hid he
                    have e := beq_str_ne he
                    clear he
                    go_wp2
                    go_roundw
                    case rel => exact ⟨m + 1, by omega, by go_num, fun j hj => by
                      by_cases e : j = m
                      · subst e; exact H.out
                      · exact Hne.out j (by omega), hb2.alloc (by omega) _⟩
                    case measure => simp [intOf]; omega
                · go_wp2
                  go_roundw
                  case rel => exact ⟨q + 1, by omega, by go_num, fun j hj => by
                    by_cases e : j = q
                    · subst e; exact jobOk_good h1 h2 h3 (fun k hk => Hne.out k (by omega))
                    · exact Hall.out j (by omega), (hb.alloc hsz _).trans (hb2.mono (by omega))⟩
                  case measure => simp [intOf]; omega
      · have H := Lib.hid (areJobs_good (by omega) (fun j hj => Hall.out j (by omega)))
        go_wp2
        go_ret
        exact ⟨retB H.out.symm, hb⟩

theorem areJobs_len {L : List Job} (h : ∀ i, i < L.length → jobOk L i = true) : areJobs L = decide (L.length ≤ 7) := by
  by_cases h7 : L.length ≤ 7
  · rw [areJobs_good h7 h]; simp [h7]
  · rw [areJobs_long (by omega)]; simp [h7]

set_option maxHeartbeats 1600000 in
theorem specAreJobs_any (w : World) (L : List Job) (v : Value) (hv : Sl w 3 v L.length (jobRow L)) (hs : jobFit L) (hn : L.length ≤ 4194304) :
    Calls Try.prog 15 #[v] w (RetB (areJobs L) w) := by
  obtain ⟨A, c, rfl, hl, hc, hr⟩ := hv
  have Hr := Lib.hid hr
  have Hs := Lib.hid hs
  clear hr hs
  go_enter Try.func15, Try.ntmps15
  go_wp2
  go_loopw [3] (fun i wr => ∃ q : Nat, q ≤ L.length ∧ i = .int .i64 q ∧ (∀ j, j < q → jobOk L j = true) ∧ Below w.heap.size w wr) (fun i _ => L.length - (intOf i).toNat)
  case atStart => exact ⟨0, Nat.zero_le _, rfl, fun j h => absurd h (by omega), Below.refl _ _⟩
  case round =>
    obtain ⟨q, hq, rfl, hall, hb⟩ := hrel
    have Hall := Lib.hid hall
    clear hall
    have hsz := hb.size
    by_cases hlt : q < L.length
    · obtain ⟨g, o, rfl, hg, c0, c1, c2⟩ := (Hr.out.below hb (Nat.le_refl _)).job hlt
      have hnm := Hs.out q hlt
      cases h1 : isWord (jobAt L q).name
      · have H := Lib.hid (areJobs_bad hlt (jobOk_word h1))
        go_wp2_with (first | (go_at_call 53; refine (specWord_any _ _ hnm).mono ?_; rintro e w2 ⟨rfl, rfl⟩) | (go_at_call 54; refine (l01In_any _ _ _ _).mono ?_; rintro e w2 ⟨rfl, rfl⟩))
        go_ret
        exact ⟨retB H.out.symm, hb.alloc hsz _⟩
      · cases h2 : inR (jobAt L q).min 1 1000
        · have H := Lib.hid (areJobs_bad hlt (jobOk_min h2))
          go_wp2_with (first | (go_at_call 53; refine (specWord_any _ _ hnm).mono ?_; rintro e w2 ⟨rfl, rfl⟩) | (go_at_call 54; refine (l01In_any _ _ _ _).mono ?_; rintro e w2 ⟨rfl, rfl⟩))
          go_ret
          exact ⟨retB H.out.symm, hb.alloc hsz _⟩
        · cases h3 : inR (jobAt L q).due 0 100000
          · have H := Lib.hid (areJobs_bad hlt (jobOk_due h3))
            go_wp2_with (first | (go_at_call 53; refine (specWord_any _ _ hnm).mono ?_; rintro e w2 ⟨rfl, rfl⟩) | (go_at_call 54; refine (l01In_any _ _ _ _).mono ?_; rintro e w2 ⟨rfl, rfl⟩))
            go_ret
            exact ⟨retB H.out.symm, hb.alloc hsz _⟩
          · go_wp2_with (first | (go_at_call 53; refine (specWord_any _ _ hnm).mono ?_; rintro e w2 ⟨rfl, rfl⟩) | (go_at_call 54; refine (l01In_any _ _ _ _).mono ?_; rintro e w2 ⟨rfl, rfl⟩))
            obtain ⟨wo, rfl⟩ : ∃ wo : World, wo = wr := ⟨_, rfl⟩
            go_loopw [5] (fun i wi => ∃ m : Nat, m ≤ q ∧ i = .int .i64 m ∧ (∀ j, j < m → (jobAt L j).name ≠ (jobAt L q).name) ∧ Below (wo.heap.size + 1) (wo.alloc (.cells #[.string (jobAt L q).name, .int .i64 (jobAt L q).min, .int .i64 (jobAt L q).due] 34)) wi) (fun i _ => q - (intOf i).toNat)
            case atStart => exact ⟨0, Nat.zero_le _, rfl, fun j h => absurd h (by omega), Below.refl _ _⟩
            case round =>
              obtain ⟨m, hm, rfl, hne, hb2⟩ := hrel
              have Hne := Lib.hid hne
              clear hne
              have hsz2 := hb2.size
              have hj := (hb2.cell (p := ⟨wo.heap.size, 0, none⟩) (by simp)).trans (show _ = some (Value.string (jobAt L q).name) by go_simp)
              rw [World.size_alloc] at hsz2
              clear c0 c1 c2
              by_cases hlm : m < q
              · have hrm := (((Hr.out.below hb (Nat.le_refl _)).alloc hsz _).below hb2 (by omega)).job (k := m) (by omega)
                obtain ⟨g', o', hA, hg', d0, d1, d2⟩ := hrm
                injection hA with hA
                injection hA with hA1 hA2
                subst hA1
                subst hA2
                have i0 : (0 : Int) ≤ (m : Int) := Int.natCast_nonneg _
                have i1 : (m : Int) < (L.length : Int) := by omega
                by_cases he : (jobAt L m).name = (jobAt L q).name
                · have H := Lib.hid (areJobs_bad hlt (jobOk_twin hlm he))
                  have e := beq_str_of he
                  clear he
                  go_wp2
                  go_quiet (fail)
                  go_wp2
                  go_ret
                  exact ⟨retB H.out.symm, below_drewN (((hb.alloc hsz _).trans (hb2.mono (by omega)))) _⟩
                · have H := Lib.hid he
                  have e := beq_str_ne he
                  clear he
                  go_wp2
                  go_quiet (fail)
                  go_wp2
                  go_roundw
                  case rel => exact ⟨m + 1, by omega, by go_num, fun j hj => by
                    by_cases e : j = m
                    · subst e; exact H.out
                    · exact Hne.out j (by omega), below_drewN hb2 _⟩
                  case measure => simp [intOf]; omega
              · go_wp2
                go_roundw
                case rel => exact ⟨q + 1, by omega, by go_num, fun j hj => by
                  by_cases e : j = q
                  · subst e; exact jobOk_good h1 h2 h3 (fun k hk => Hne.out k (by omega))
                  · exact Hall.out j (by omega), (hb.alloc hsz _).trans (hb2.mono (by omega))⟩
                case measure => simp [intOf]; omega
    · have H := Lib.hid (areJobs_len (fun j hj => Hall.out j (by omega)))
      go_wp2
      go_ret
      exact ⟨retB (H.out.trans (decide_eq_decide.2 (by omega))).symm, hb⟩

end Go.Proofs.Ytfkindkekjafnaa
