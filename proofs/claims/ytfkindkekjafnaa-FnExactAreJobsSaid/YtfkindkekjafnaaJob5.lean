/- The walk of the reference's AreJobs; the walk of the law FnExactAreJobs. -/
import Derived.Test.YtfkindkekjafnaaJob4
namespace Go.Proofs.Ytfkindkekjafnaa
open Go.RowKit

theorem areJobs_len {L : List Job} (h : ∀ i, i < L.length → jobOk L i = true) : areJobs L = decide (L.length ≤ 7) := by
  by_cases h7 : L.length ≤ 7
  · rw [areJobs_good h7 h]; simp [h7]
  · rw [areJobs_long (by omega)]; simp [h7]

set_option maxHeartbeats 1600000 in
theorem specAreJobs_any (L : List Job) (A : Option Addr) (c : Nat) (w : World) (hr : Rd w w.heap.size 3 A L.length (jrow L)) (_hl : L.length ≤ c) (hc : L.length ≤ 4194304) (hs : ∀ i, i < L.length → (jat L i).name.size ≤ maxLen) :
    Calls Try.prog 15 #[.slice A L.length c] w fun e w' => e = .returned (.bool (areJobs L)) ∧ Below w.heap.size w w' := by
  have Hr := Lib.hid hr
  have Hs := Lib.hid hs
  clear hr hs
  go_enter Try.func15, Try.ntmps15
  go_wp2
  go_loopw [3] (fun i wr => ∃ q : Nat, q ≤ L.length ∧ i = .int .i64 q ∧ (∀ j, j < q → jobOk L j = true) ∧ Below w.heap.size w wr) (fun i _ => L.length - (intOf i).toNat)
  case atStart => exact ⟨0, Nat.zero_le _, rfl, fun j h => absurd h (by omega), Below.refl _ _⟩
  case round =>
    obtain ⟨q, hq, rfl, hall, hb⟩ := hrel
    have Hall := Lib.hid hall
    clear hall
    have hsz := hb.size
    by_cases hlt : q < L.length
    · obtain ⟨g, o, rfl, hg, c0, c1, c2⟩ := (Hr.out.below hb (Nat.le_refl _)).job hlt
      have hnm := Hs.out q hlt
      cases h1 : isWord (jat L q).name
      · have H := Lib.hid (areJobs_bad hlt (jobOk_word h1))
        go_wp2_with (first | (go_at_call 53; refine (specWord_any _ _ hnm).mono ?_; rintro e w2 ⟨rfl, rfl⟩) | (go_at_call 54; refine (l01In_any _ _ _ _).mono ?_; rintro e w2 ⟨rfl, rfl⟩))
        go_ret
        exact ⟨retB H.out.symm, hb.alloc hsz _⟩
      · cases h2 : inR (jat L q).min 1 1000
        · have H := Lib.hid (areJobs_bad hlt (jobOk_min h2))
          go_wp2_with (first | (go_at_call 53; refine (specWord_any _ _ hnm).mono ?_; rintro e w2 ⟨rfl, rfl⟩) | (go_at_call 54; refine (l01In_any _ _ _ _).mono ?_; rintro e w2 ⟨rfl, rfl⟩))
          go_ret
          exact ⟨retB H.out.symm, hb.alloc hsz _⟩
        · cases h3 : inR (jat L q).due 0 100000
          · have H := Lib.hid (areJobs_bad hlt (jobOk_due h3))
            go_wp2_with (first | (go_at_call 53; refine (specWord_any _ _ hnm).mono ?_; rintro e w2 ⟨rfl, rfl⟩) | (go_at_call 54; refine (l01In_any _ _ _ _).mono ?_; rintro e w2 ⟨rfl, rfl⟩))
            go_ret
            exact ⟨retB H.out.symm, hb.alloc hsz _⟩
          · go_wp2_with (first | (go_at_call 53; refine (specWord_any _ _ hnm).mono ?_; rintro e w2 ⟨rfl, rfl⟩) | (go_at_call 54; refine (l01In_any _ _ _ _).mono ?_; rintro e w2 ⟨rfl, rfl⟩))
            obtain ⟨wo, rfl⟩ : ∃ wo : World, wo = wr := ⟨_, rfl⟩
            go_loopw [5] (fun i wi => ∃ m : Nat, m ≤ q ∧ i = .int .i64 m ∧ (∀ j, j < m → (jat L j).name ≠ (jat L q).name) ∧ Below (wo.heap.size + 1) (wo.alloc (.cells #[.string (jat L q).name, .int .i64 (jat L q).min, .int .i64 (jat L q).due] 34)) wi) (fun i _ => q - (intOf i).toNat)
            case atStart => exact ⟨0, Nat.zero_le _, rfl, fun j h => absurd h (by omega), Below.refl _ _⟩
            case round =>
              obtain ⟨m, hm, rfl, hne, hb2⟩ := hrel
              have Hne := Lib.hid hne
              clear hne
              have hsz2 := hb2.size
              have hj := (hb2.cell (p := ⟨wo.heap.size, 0, none⟩) (by simp)).trans (show _ = some (Value.string (jat L q).name) by go_simp)
              rw [World.size_alloc] at hsz2
              clear c0 c1 c2
              by_cases hlm : m < q
              · have hrm := (((Hr.out.below hb (Nat.le_refl _)).alloc hsz _).below hb2 (by omega)).job (k := m) (by omega)
                obtain ⟨g', o', hA, hg', d0, d1, d2⟩ := hrm
                injection hA with hA
                injection hA with hA1 hA2
                subst hA1
                subst hA2
                have i0 : (0 : Int) ≤ (m : Int) := Int.natCast_nonneg _
                have i1 : (m : Int) < (L.length : Int) := by omega
                by_cases he : (jat L m).name = (jat L q).name
                · have H := Lib.hid (areJobs_bad hlt (jobOk_twin hlm he))
                  have e := beq_str_of he
                  clear he
                  go_wp2
                  go_quiet (fail)
                  go_wp2
                  go_ret
                  exact ⟨retB H.out.symm, below_drewN (((hb.alloc hsz _).trans (hb2.mono (by omega)))) _⟩
                · have H := Lib.hid he
                  have e := beq_str_ne he
                  clear he
                  go_wp2
                  go_quiet (fail)
                  go_wp2
                  go_roundw
                  case rel => exact ⟨m + 1, by omega, by go_num, fun j hj => by
                    by_cases e : j = m
                    · subst e; exact H.out
                    · exact Hne.out j (by omega), below_drewN hb2 _⟩
                  case measure => simp [intOf]; omega
              · go_wp2
                go_roundw
                case rel => exact ⟨q + 1, by omega, by go_num, fun j hj => by
                  by_cases e : j = q
                  · subst e; exact jobOk_good h1 h2 h3 (fun k hk => Hne.out k (by omega))
                  · exact Hall.out j (by omega), (hb.alloc hsz _).trans (hb2.mono (by omega))⟩
                case measure => simp [intOf]; omega
    · have H := Lib.hid (areJobs_len (fun j hj => Hall.out j (by omega)))
      go_wp2
      go_ret
      exact ⟨retB (H.out.trans (decide_eq_decide.2 (by omega))).symm, hb⟩

set_option maxHeartbeats 1600000 in
theorem lawAreJobs_any (L : List Job) (A : Option Addr) (c : Nat) (w : World) (hr : Rd w w.heap.size 3 A L.length (jrow L)) (hl : L.length ≤ c) (hc : c ≤ maxLen) (hs : ∀ i, i < L.length → (jat L i).name.size ≤ maxLen) :
    Calls Try.prog 3 #[.slice A L.length c] w fun e w' => e = .returned (.bool true) ∧ Below w.heap.size w w' := by
  have Hr := Lib.hid hr
  have Hs := Lib.hid hs
  clear hr hs
  go_enter Try.func3, Try.ntmps3
  go_wp2_with fail
  refine (szJobS_any L A c 1048576 w Hr.out hl hc Hs.out (by omega) (by omega)).mono ?_
  rintro e w1 ⟨r, rfl, hr1, hrn, hb1⟩
  by_cases hneg : r < 0
  · go_wp2
    go_ret
    exact ⟨rfl, hb1⟩
  · have hn := hrn (by omega)
    clear hrn
    go_wp2_with fail
    refine (toJobS_any L A c w1 (by exact (Hr.out.below hb1 (Nat.le_refl _)).more hb1.size) hl hc hn).mono ?_
    rintro e w2 ⟨A2, c2, rfl, ho2, hb2⟩
    have b2 := hb1.trans (hb2.mono hb1.size)
    have Ho2 := Lib.hid ho2
    clear ho2
    go_wp2_with fail
    refine (specAreJobs_any L A2 c2 w2 (Rd.of_own Ho2.out) (own_caps Ho2.out).2.1 (by omega) Hs.out).mono ?_
    rintro e w3 ⟨rfl, hb3⟩
    have b3 := b2.trans (hb3.mono b2.size)
    go_wp2_with fail
    refine (toJobS_any L A c w3 (by exact (Hr.out.below b3 (Nat.le_refl _)).more b3.size) hl hc hn).mono ?_
    rintro e w4 ⟨A4, c4, rfl, ho4, hb4⟩
    have b4 := b3.trans (hb4.mono b3.size)
    have Ho4 := Lib.hid ho4
    clear ho4
    go_wp2_with fail
    refine (implAreJobs_any L A4 c4 w4 (Rd.of_own Ho4.out) (own_caps Ho4.out).2.1 (own_caps Ho4.out).2.2 Hs.out).mono ?_
    rintro e w5 ⟨rfl, hb5⟩
    have b5 := b4.trans (hb5.mono b4.size)
    have ho5 := own_below Ho4.out hb5
    have Ho5 := Lib.hid ho5
    clear ho5
    go_wp2_with fail
    refine (toJobS_any L A c w5 (by exact (Hr.out.below b5 (Nat.le_refl _)).more b5.size) hl hc hn).mono ?_
    rintro e w6 ⟨A6, c6, rfl, ho6, hb6⟩
    have b6 := b5.trans (hb6.mono b5.size)
    have ho5' := own_below Ho5.out hb6
    have Ho6 := Lib.hid ho6
    have Ho5' := Lib.hid ho5'
    clear ho6 ho5'
    go_wp2_with fail
    refine (eqJobS_same L A4 A6 c4 c6 w6 (Rd.of_own Ho5'.out) (Rd.of_own Ho6.out) hn).mono ?_
    rintro e w7 ⟨rfl, hb7⟩
    go_wp2
    go_ret
    exact ⟨rfl, b6.trans (hb7.mono b6.size)⟩

end Go.Proofs.Ytfkindkekjafnaa
