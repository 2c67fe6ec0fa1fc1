/- Plans of jobs: what a plan is; when jobs end; the walks of isPlan, l22Plan, endsOf, l22Ends, lateBy, l22Late. -/
import Derived.Test.YtfkindkekjafnaaAreJobs
import Derived.Test.YtfkindkekjafnaaInts
import Derived.Test.YtfkindkekjafnaaApp
import Derived.Test.YtfkindkekjafnaaBits
namespace Go.Proofs.Ytfkindkekjafnaa
open Go.RowKit

/-- A list that holds each index below n once. -/
def planOk (n : Nat) (P : List Int) : Bool := decide (P.length = n) && decide (∀ i, i < P.length → 0 ≤ intsAt P i ∧ intsAt P i < n ∧ ∀ j, j < i → intsAt P j ≠ intsAt P i)
theorem planOk_iff {n : Nat} {P : List Int} : planOk n P = true ↔ P.length = n ∧ ∀ i, i < P.length → 0 ≤ intsAt P i ∧ intsAt P i < n ∧ ∀ j, j < i → intsAt P j ≠ intsAt P i := by
  simp only [planOk, Bool.and_eq_true, decide_eq_true_eq]
theorem planOk_len {n : Nat} {P : List Int} (h : P.length ≠ n) : planOk n P = false := by
  cases e : planOk n P
  · rfl
  · exact absurd (planOk_iff.1 e).1 h
theorem planOk_range {n : Nat} {P : List Int} {i : Nat} (hi : i < P.length) (h : ¬ (0 ≤ intsAt P i ∧ intsAt P i < n)) : planOk n P = false := by
  cases e : planOk n P
  · rfl
  · have := (planOk_iff.1 e).2 i hi; exact absurd ⟨this.1, this.2.1⟩ h
theorem planOk_twice {n : Nat} {P : List Int} {i j : Nat} (hi : i < P.length) (hj : j < i) (h : intsAt P j = intsAt P i) : planOk n P = false := by
  cases e : planOk n P
  · rfl
  · exact absurd h (((planOk_iff.1 e).2 i hi).2.2 j hj)

/-- The minutes and ends. -/
def endsGo (L : List Job) : List Int → Int → List Int → List Int
  | [], _, out => out
  | p :: ps, now, out => endsGo L ps (now + (jobAt L p.toNat).min) (out.set p.toNat (now + (jobAt L p.toNat).min))
def nowGo (L : List Job) (P : List Int) : Int := P.foldl (fun n p => n + (jobAt L p.toNat).min) 0
def endsOf (L : List Job) (P : List Int) : List Int := endsGo L P 0 (List.replicate L.length 0)
theorem endsGo_len (L : List Job) : ∀ (P : List Int) (now : Int) (out : List Int), (endsGo L P now out).length = out.length
  | [], _, _ => rfl
  | p :: ps, now, out => by rw [endsGo, endsGo_len L ps]; simp
theorem endsOf_length (L : List Job) (P : List Int) : (endsOf L P).length = L.length := by simp [endsOf, endsGo_len]
/-- One step more at the end. -/
theorem endsGo_snoc (L : List Job) (p : Int) : ∀ (P : List Int) (now : Int) (out : List Int), endsGo L (P ++ [p]) now out = (endsGo L P now out).set p.toNat (P.foldl (fun n p => n + (jobAt L p.toNat).min) now + (jobAt L p.toNat).min)
  | [], _, _ => rfl
  | q :: ps, now, out => by rw [List.cons_append, endsGo, endsGo_snoc L p ps, endsGo]; rfl
theorem endsOf_take (L : List Job) (P : List Int) {k : Nat} (h : k < P.length) :
    endsGo L (P.take (k + 1)) 0 (List.replicate L.length 0) = (endsGo L (P.take k) 0 (List.replicate L.length 0)).set (intsAt P k).toNat (nowGo L (P.take (k + 1))) := by
  rw [take_snoc P 0 h, endsGo_snoc]
  simp only [nowGo, List.foldl_append, List.foldl_cons, List.foldl_nil]
  rfl
theorem nowGo_take (L : List Job) (P : List Int) {k : Nat} (h : k < P.length) : nowGo L (P.take (k + 1)) = nowGo L (P.take k) + (jobAt L (intsAt P k).toNat).min := by
  rw [take_snoc P 0 h, nowGo, List.foldl_append]; rfl

/-- Jobs as described: their numbers' ranges. -/
theorem areJobs_at {L : List Job} (h : areJobs L = true) {i : Nat} (hi : i < L.length) : 1 ≤ (jobAt L i).min ∧ (jobAt L i).min ≤ 1000 ∧ 0 ≤ (jobAt L i).due ∧ (jobAt L i).due ≤ 100000 := by
  simp only [areJobs, Bool.and_eq_true, List.all_eq_true, List.mem_range] at h
  have := h.2 i hi
  simp only [jobOk, Bool.and_eq_true, inR, decide_eq_true_eq] at this
  omega
theorem nowGo_bd {L : List Job} (h : areJobs L = true) : ∀ (P : List Int), (∀ i, i < P.length → 0 ≤ intsAt P i ∧ intsAt P i < L.length) → 0 ≤ nowGo L P ∧ nowGo L P ≤ 1000 * P.length := by
  have key : ∀ (P : List Int) (n : Int), (∀ i, i < P.length → 0 ≤ intsAt P i ∧ intsAt P i < L.length) → n ≤ P.foldl (fun n p => n + (jobAt L p.toNat).min) n ∧ P.foldl (fun n p => n + (jobAt L p.toNat).min) n ≤ n + 1000 * P.length := by
    intro P
    induction P with
    | nil => intro n _; simp
    | cons p ps ih =>
      intro n hp
      have h0 := hp 0 (by simp)
      have hj := areJobs_at h (i := p.toNat) (by simp [intsAt] at h0; omega)
      have := ih (n + (jobAt L p.toNat).min) (fun i hi => hp (i + 1) (by simp; omega))
      simp only [List.foldl_cons, List.length_cons]
      omega
  intro P hp
  have := key P 0 hp
  unfold nowGo; omega

set_option maxHeartbeats 1000000 in
theorem implIsPlan_any (w : World) (L : List Job) (v : Value) (P : List Int) (u : Value) (hv : Sl w 3 v L.length (jobRow L)) (h7 : L.length ≤ 7) (hu : Sl w 1 u P.length (intsRow P)) (hP : P.length ≤ 4194304) :
    Calls Try.prog 61 #[v, u] w (RetB (planOk L.length P) w) := by
  obtain ⟨A, c, rfl, hl, hc, hr⟩ := hv
  obtain ⟨A', c', rfl, hl', hc', hr'⟩ := hu
  have Hr' := Lib.hid hr'
  clear hr hr' hl hc hl' hc'
  by_cases hlen : P.length = L.length
  · have t1 : ((P.length : Int) != (L.length : Int)) = false := by rw [hlen]; simp
    have Hl := Lib.hid hlen
    clear hlen
    go_enter Try.func61, Try.ntmps61
    go_wp2
    go_loop [5, 15] (fun s i => ∃ k m : Nat, k ≤ P.length ∧ m = maskOf (P.take k) ∧ m < 128 ∧ i = .int .i64 k ∧ s = .int .i64 m ∧ ∀ i, i < k → 0 ≤ intsAt P i ∧ intsAt P i < L.length ∧ ∀ j, j < i → intsAt P j ≠ intsAt P i) (fun _ i => P.length - (intOf i).toNat)
    case atStart => exact ⟨0, 0, Nat.zero_le _, rfl, by omega, rfl, rfl, fun i h => absurd h (by omega)⟩
    case round =>
      obtain ⟨k, m, hk, hm, hm7, rfl, rfl, hok⟩ := hrel
      have Hm := Lib.hid hm
      have Hok := Lib.hid hok
      clear hm hok
      by_cases hlt : k < P.length
      · obtain ⟨g, o, rfl, hg, c0⟩ := Hr'.out.ints hlt
        by_cases hr1 : 0 ≤ intsAt P k ∧ intsAt P k < L.length
        · obtain ⟨b, hb⟩ := Int.eq_ofNat_of_zero_le hr1.1
          have Hb := Lib.hid hb
          rw [hb] at c0
          have hb2 : b < L.length := by omega
          have hin : inR (b : Int) 0 ((L.length : Int) - 1) = true := by simp [inR]; omega
          clear hr1 hb
          have hmo : m ||| 2 ^ b < 128 := Nat.or_lt_two_pow (n := 7) (by omega) (Nat.pow_lt_pow_right (by omega) (by omega))
          cases hbit : m.testBit b
          · have t2 := mask_no (m := m) (b := b) (by omega) (by omega) hbit
            have Ho := Lib.hid (mask_or (m := m) (b := b) (by omega) (by omega))
            have Hbit := Lib.hid hbit
            clear hbit
            go_wp2_with (go_at_call 56; refine (within_any _ _ _ _).mono ?_; rintro e w2 ⟨rfl, rfl⟩)
            go_round
            case rel =>
              refine ⟨k + 1, m ||| 2 ^ b, by omega, ?_, hmo, by go_num, valI Ho.out, fun i hi => ?_⟩
              · rw [maskOf_take P hlt, ← Hm.out, Hb.out]; rfl
              · by_cases e : i = k
                · subst e
                  refine ⟨by rw [Hb.out]; omega, by rw [Hb.out]; omega, fun j hj he => ?_⟩
                  have h1 := Hbit.out
                  rw [Hm.out, maskOf_test, List.any_eq_false] at h1
                  have hjl : j < P.length := by omega
                  refine h1 (intsAt P j) (List.mem_iff_getElem.2 ⟨j, by simp; omega, ?_⟩) ?_
                  · rw [List.getElem_take, intsAt_lt hjl]
                  · simp; rw [he, Hb.out]; rfl
                · exact Hok.out i (by omega)
            case measure => simp [intOf]; omega
          · have t2 := mask_yes (m := m) (b := b) (by omega) (by omega) hbit
            have hex : ∃ j, j < k ∧ intsAt P j = intsAt P k := by
              rw [Hm.out, maskOf_test, List.any_eq_true] at hbit
              obtain ⟨x, hx, he⟩ := hbit
              obtain ⟨j, hj, rfl⟩ := List.mem_iff_getElem.1 hx
              have hj2 : j < k := by simp at hj; omega
              refine ⟨j, hj2, ?_⟩
              rw [List.getElem_take, ← intsAt_lt (by omega)] at he
              have h0 := (Hok.out j hj2).1
              have : (intsAt P j).toNat = b := by simpa using he
              rw [Hb.out]; omega
            obtain ⟨j, hj, he⟩ := hex
            have H := Lib.hid (planOk_twice (n := L.length) hlt hj he)
            clear he hbit
            go_wp2_with (go_at_call 56; refine (within_any _ _ _ _).mono ?_; rintro e w2 ⟨rfl, rfl⟩)
            go_ret
            exact RetB.ok H.out (Below.refl _ _)
        · have H := Lib.hid (planOk_range (n := L.length) hlt hr1)
          have hin : inR (intsAt P k) 0 ((L.length : Int) - 1) = false := by simp [inR]; omega
          clear hr1
          go_wp2_with (go_at_call 56; refine (within_any _ _ _ _).mono ?_; rintro e w2 ⟨rfl, rfl⟩)
          go_ret
          exact RetB.ok H.out (Below.refl _ _)
      · have H := Lib.hid (planOk_iff.2 ⟨Hl.out, fun i hi => Hok.out i (by omega)⟩)
        go_wp2
        go_ret
        exact RetB.ok H.out (Below.refl _ _)
  · have H := Lib.hid (planOk_len hlen)
    have t1 : ((P.length : Int) != (L.length : Int)) = true := by simp; omega
    clear hlen
    go_enter Try.func61, Try.ntmps61
    go_wp2
    go_ret
    exact RetB.ok H.out (Below.refl _ _)

set_option maxHeartbeats 400000 in
theorem specHas_any (w : World) (l : List Int) (v : Value) (x : Int) (hv : Sl w 1 v l.length (intsRow l)) :
    Calls Try.prog 75 #[v, .int .i64 x] w fun e w' => e = .returned (.bool (decide (x ∈ l))) ∧ w = w' := by
  obtain ⟨A, c, rfl, hl, hc, hr⟩ := hv
  unfold maxLen at hc
  have Hr := Lib.hid hr
  clear hr
  go_enter Try.func75, Try.ntmps75
  go_wp2
  go_loop [5] (fun i => ∃ k : Nat, k ≤ l.length ∧ i = .int .i64 k ∧ ∀ j, j < k → intsAt l j ≠ x) (fun i => l.length - (intOf i).toNat)
  case atStart => exact ⟨0, Nat.zero_le _, rfl, fun j h => absurd h (by omega)⟩
  case round =>
    obtain ⟨k, hk, rfl, hne⟩ := hrel
    have Hne := Lib.hid hne
    clear hne
    by_cases hlt : k < l.length
    · obtain ⟨g, o, rfl, hg, c0⟩ := Hr.out.ints hlt
      by_cases he : intsAt l k = x
      · have hm : x ∈ l := by rw [← he, intsAt_lt hlt]; exact List.getElem_mem hlt
        have H := Lib.hid (show decide (x ∈ l) = true by simpa using hm)
        have t1 : (intsAt l k == x) = true := by simpa using he
        clear he hm
        go_wp2
        go_ret
        exact ⟨retB H.out.symm, rfl⟩
      · have t1 : (intsAt l k == x) = false := by simpa using he
        have He := Lib.hid he
        clear he
        go_wp2
        go_round
        case rel => exact ⟨k + 1, by omega, by go_num, fun j hj => by
          by_cases e : j = k
          · subst e; exact He.out
          · exact Hne.out j (by omega)⟩
        case measure => simp [intOf]; omega
    · have hm : x ∉ l := fun hx => by
        obtain ⟨j, hj, e⟩ := List.mem_iff_getElem.1 hx
        exact Hne.out j (by omega) (by rw [intsAt_lt hj]; exact e)
      have H := Lib.hid (show decide (x ∈ l) = false by simpa using hm)
      clear hm
      go_wp2
      go_ret
      exact ⟨retB H.out.symm, rfl⟩

def planCode (L : List Job) (P : List Int) : Int := if areJobs L = false then 1 else if planOk L.length P = false then 2 else 0
theorem planCode_bad {L : List Job} {P : List Int} (h : areJobs L = false) : planCode L P = 1 := by simp [planCode, h]
theorem planCode_no {L : List Job} {P : List Int} (h : areJobs L = true) (h2 : planOk L.length P = false) : planCode L P = 2 := by simp [planCode, h, h2]
theorem planCode_ok {L : List Job} {P : List Int} (h : areJobs L = true) (h2 : planOk L.length P = true) : planCode L P = 0 := by simp [planCode, h, h2]
theorem RetI.ok {r k : Int} {w w' : World} (h : r = k) (hb : Below w.heap.size w w') : RetI r w (.returned (.int .i64 k)) w' := by
  subst h; exact ⟨rfl, hb⟩

set_option maxHeartbeats 2000000 in
theorem specPlan_any (w : World) (L : List Job) (v : Value) (P : List Int) (u : Value) (hv : Sl w 3 v L.length (jobRow L)) (hf : jobFit L) (hn : L.length ≤ 4194304) (hu : Sl w 1 u P.length (intsRow P)) (hP : P.length ≤ 4194304) :
    Calls Try.prog 59 #[v, u] w (RetI (planCode L P) w) := by
  have Hv := Lib.hid hv
  have Hf := Lib.hid hf
  clear hf
  obtain ⟨A, c, rfl, hl, hc, hr⟩ := hv
  obtain ⟨A', c', rfl, hl', hc', hr'⟩ := hu
  have Hr' := Lib.hid hr'
  clear hr hr' hl hc
  unfold maxLen at hc'
  cases h1 : areJobs L
  · have H := Lib.hid (planCode_bad (P := P) h1)
    go_enter Try.func59, Try.ntmps59
    go_wp2_with fail
    refine (specAreJobs_any _ L _ Hv.out Hf.out hn).mono ?_
    rintro e w2 ⟨rfl, hb2⟩
    rw [h1]
    go_wp2
    go_ret
    exact RetI.ok H.out hb2
  · go_enter Try.func59, Try.ntmps59
    go_wp2_with fail
    refine (specAreJobs_any _ L _ Hv.out Hf.out hn).mono ?_
    rintro e w2 ⟨rfl, hb2⟩
    rw [h1]
    have Hr2 := Lib.hid (Hr'.out.below' hb2)
    go_wp2
    go_loopw [5] (fun i wr => ∃ (k : Nat), k ≤ P.length ∧ i = .int .i64 k ∧ Below w2.heap.size w2 wr ∧ ∀ i, i < k → 0 ≤ intsAt P i ∧ intsAt P i < L.length ∧ ∀ j, j < i → intsAt P j ≠ intsAt P i) (fun i _ => P.length - (intOf i).toNat)
    case atStart => exact ⟨0, Nat.zero_le _, rfl, Below.refl _ _, fun i h => absurd h (by omega)⟩
    case round =>
      obtain ⟨k, hk, rfl, hbr, hok⟩ := hrel
      have Hok := Lib.hid hok
      clear hok
      have bq : Below w.heap.size w wr := hb2.trans (hbr.mono hb2.size)
      have Hrr := Lib.hid (Hr2.out.below' hbr)
      by_cases hlt : k < P.length
      · obtain ⟨g, o, rfl, hg, c0⟩ := Hrr.out.ints hlt
        have i0 : (0 : Int) ≤ (k : Int) := Int.natCast_nonneg _
        have i1 : (k : Int) < (P.length : Int) := by omega
        have i2 : (k : Int) ≤ (c' : Int) := by omega
        by_cases hr1 : 0 ≤ intsAt P k ∧ intsAt P k < L.length
        · have hin : inR (intsAt P k) 0 ((L.length : Int) - 1) = true := by simp [inR]; omega
          have hsl : ∀ n, Sl (wr.drewN n) 1 (.slice (some ⟨g, o, none⟩) k c') (P.take k).length (intsRow (P.take k)) := fun n => ⟨_, c', by rw [List.length_take, Nat.min_eq_left (by omega)], by rw [List.length_take, Nat.min_eq_left (by omega)]; omega, by unfold maxLen; omega, by
            have := (Hrr.out.drewN n).take (k := k) (by omega)
            rw [intsRow_take, List.length_take, Nat.min_eq_left (by omega)]; exact this⟩
          have Hsl := Lib.hid hsl
          clear hsl hr1
          cases hm : decide (intsAt P k ∈ P.take k)
          · go_wp2
            go_quiet (first | (go_at_call 54; exact quiet_l (l01In_any _ _ _ _)) | (go_at_call 75; exact quiet_l (specHas_any _ (P.take k) _ _ (Hsl.out _))))
            go_wp2
            go_roundw
            case rel =>
              refine ⟨k + 1, by omega, by go_num, below_drewN hbr _, fun i hi => ?_⟩
              by_cases e : i = k
              · subst e
                simp only [inR, decide_eq_true_eq] at hin
                refine ⟨by omega, by omega, fun j hj he => ?_⟩
                have h2 : intsAt P i ∉ P.take i := by simpa using hm
                refine h2 (List.mem_iff_getElem.2 ⟨j, by simp; omega, ?_⟩)
                rw [List.getElem_take, ← intsAt_lt (by omega)]; exact he
              · exact Hok.out i (by omega)
            case measure => simp [intOf]; omega
          · have hex : ∃ j, j < k ∧ intsAt P j = intsAt P k := by
              have h2 : intsAt P k ∈ P.take k := by simpa using hm
              obtain ⟨j, hj, he⟩ := List.mem_iff_getElem.1 h2
              have hj2 : j < k := by simp at hj; omega
              refine ⟨j, hj2, ?_⟩
              rw [List.getElem_take, ← intsAt_lt (by omega)] at he
              exact he
            obtain ⟨j, hj, he⟩ := hex
            have H := Lib.hid (planCode_no h1 (planOk_twice (n := L.length) hlt hj he))
            clear he
            go_wp2
            go_quiet (first | (go_at_call 54; exact quiet_l (l01In_any _ _ _ _)) | (go_at_call 75; exact quiet_l (specHas_any _ (P.take k) _ _ (Hsl.out _))))
            go_wp2
            go_ret
            exact RetI.ok H.out (below_drewN bq _)
        · have H := Lib.hid (planCode_no h1 (planOk_range (n := L.length) hlt hr1))
          have hin : inR (intsAt P k) 0 ((L.length : Int) - 1) = false := by simp [inR]; omega
          clear hr1
          go_wp2
          go_quiet ((go_at_call 54; exact quiet_l (l01In_any _ _ _ _)))
          go_wp2
          go_ret
          exact RetI.ok H.out (below_drewN bq _)
      · by_cases hlen : P.length = L.length
        · have H := Lib.hid (planCode_ok h1 (planOk_iff.2 ⟨hlen, fun i hi => Hok.out i (by omega)⟩))
          have t1 : ((P.length : Int) != (L.length : Int)) = false := by rw [hlen]; simp
          clear hlen
          go_wp2
          go_ret
          exact RetI.ok H.out bq
        · have H := Lib.hid (planCode_no h1 (planOk_len hlen))
          have t1 : ((P.length : Int) != (L.length : Int)) = true := by simp; omega
          clear hlen
          go_wp2
          go_ret
          exact RetI.ok H.out bq

end Go.Proofs.Ytfkindkekjafnaa
