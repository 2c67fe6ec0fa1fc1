/- When jobs end, by how much they are late: the walks of endsOf, l22Ends, lateBy, l22Late, total, l01Sum. -/
import Derived.Test.YtfkindkekjafnaaPlan
namespace Go.Proofs.Ytfkindkekjafnaa
open Go.RowKit

/-- A plan's elements. -/
theorem planOk_at {n : Nat} {P : List Int} (h : planOk n P = true) {k : Nat} (hk : k < P.length) : ∃ b : Nat, intsAt P k = b ∧ b < n := by
  have := (planOk_iff.1 h).2 k hk
  obtain ⟨b, hb⟩ := Int.eq_ofNat_of_zero_le this.1
  exact ⟨b, hb, by omega⟩
theorem nowGo_plan {L : List Job} {P : List Int} (h : areJobs L = true) (h2 : planOk L.length P = true) {k : Nat} (hk : k ≤ P.length) : 0 ≤ nowGo L (P.take k) ∧ nowGo L (P.take k) ≤ 7000 := by
  have h7 := areJobs_le h
  have hl := (planOk_iff.1 h2).1
  have := nowGo_bd h (P.take k) (fun i hi => by
    have hik : i < k := by simp at hi; omega
    have hiP : i < P.length := by omega
    have e : intsAt (P.take k) i = intsAt P i := by rw [intsAt_lt hi, intsAt_lt hiP, List.getElem_take]
    rw [e]
    have := (planOk_iff.1 h2).2 i hiP
    exact ⟨this.1, this.2.1⟩)
  have h3 : (P.take k).length ≤ 7 := by simp; omega
  omega

set_option maxHeartbeats 1000000 in
theorem implEnds_any (w : World) (L : List Job) (v : Value) (P : List Int) (u : Value) (hv : Sl w 3 v L.length (jobRow L)) (hu : Sl w 1 u P.length (intsRow P)) (hj : areJobs L = true) (hp : planOk L.length P = true) :
    Calls Try.prog 62 #[v, u] w (Gives w.heap.size 2 1 L.length (intsRow (endsOf L P)) w) := by
  have h7 := areJobs_le hj
  have hlP := (planOk_iff.1 hp).1
  have hP7 : P.length ≤ 7 := by omega
  have HlP := Lib.hid hlP
  clear hlP
  obtain ⟨A, c, rfl, hl, hc, hr⟩ := hv
  obtain ⟨A', c', rfl, hl', hc', hr'⟩ := hu
  have Hr := Lib.hid hr
  have Hr' := Lib.hid hr'
  clear hr hr' hl hc hl' hc'
  obtain ⟨i0, hi, hz0, hz1, hz2⟩ := info_parts Try.info_ints
  go_enter Try.func62, Try.ntmps62
  go_wp2_with (at_make; refine wpList_make_full _ rfl _ _ 38 rfl w.heap.size 2 i0 _ 1 Try.underlying38 hi hz0 hz1 _ _ _ _ L.length rfl rfl rfl rfl (by rw [hz2]; omega) (by unfold maxLen; omega) (Nat.le_refl _) ?_; intro w1 hown hgr)
  have hb1 := (Below.refl w.heap.size w).grown hgr (Nat.le_refl _) (fun _ h => by cases h)
  have hz : (madeCells (Value.int .i64 0).cells (L.length * 1)).toList = intsRow (List.replicate L.length 0) := by
    rw [Nat.mul_one]; show (madeCells #[Value.int .i64 0] L.length).toList = _
    rw [toList_madeCells_one]; simp [intsRow]
  rw [hz] at hown
  have Hown := Lib.hid hown
  clear hgr hown hz
  go_wp2
  go_loopw [6, 14] (fun s i wr => ∃ (k : Nat) (out : List Int) (now : Int), k ≤ P.length ∧ out = endsGo L (P.take k) 0 (List.replicate L.length 0) ∧ now = nowGo L (P.take k) ∧ i = .int .i64 k ∧ s = .int .i64 now ∧
      wr.ownsRow w.heap.size 2 1 (.slice (some ⟨w.heap.size, 0, none⟩) L.length L.length) L.length (intsRow out) ∧ Below w.heap.size w wr) (fun _ i _ => P.length - (intOf i).toNat)
  case atStart => exact ⟨0, List.replicate L.length 0, 0, Nat.zero_le _, rfl, rfl, rfl, rfl, Hown.out, hb1⟩
  case round =>
    obtain ⟨k, out, now, hk, hout, hnow, rfl, rfl, ho, hb⟩ := hrel
    have Hout := Lib.hid hout
    have hbd := nowGo_plan hj hp hk
    rw [← hnow] at hbd
    have Hnow := Lib.hid hnow
    clear hout hnow
    have hsz := hb.size
    by_cases hlt : k < P.length
    · obtain ⟨g', o', rfl, hg', c0⟩ := (Hr'.out.below hb (Nat.le_refl _)).ints hlt
      obtain ⟨b, hbe, hbl⟩ := planOk_at hp hlt
      have Hbe := Lib.hid hbe
      rw [hbe] at c0
      clear hbe
      obtain ⟨g, o, rfl, hg, e0, e1, e2⟩ := (Hr.out.below hb (Nat.le_refl _)).job hbl
      have hjb := areJobs_at hj hbl
      obtain ⟨x0, d0⟩ := own_cell ho (j := b) (by omega)
      have f0 := ho.frozenAt b
      have Ho := Lib.hid ho
      clear ho
      go_wp2
      go_roundw
      case rel =>
        have en : now + (jobAt L b).min = nowGo L (P.take (k + 1)) := by rw [nowGo_take L P hlt, ← Hnow.out, Hbe.out]; rfl
        refine ⟨k + 1, out.set b (now + (jobAt L b).min), now + (jobAt L b).min, by omega, ?_, en, by go_num, rfl, ?_, hb.setCell (Nat.le_refl _) _⟩
        · rw [endsOf_take L P hlt, ← en, ← Hout.out, Hbe.out]; rfl
        · have := (Ho.out.stored b (.int .i64 (now + (jobAt L b).min))).1
          rw [intsRow_set] at this; exact this
      case measure => simp [intOf]; omega
    · have Ho := Lib.hid ho
      clear ho
      go_wp2
      go_ret
      refine ⟨_, rfl, ?_, hb⟩
      have e : out = endsOf L P := by rw [Hout.out, endsOf, List.take_of_length_le (by omega)]
      rw [← e]; exact Ho.out

set_option maxHeartbeats 1000000 in
theorem specEnds_any (w : World) (L : List Job) (v : Value) (P : List Int) (u : Value) (hv : Sl w 3 v L.length (jobRow L)) (hu : Sl w 1 u P.length (intsRow P)) (hj : areJobs L = true) (hp : planOk L.length P = true) :
    Calls Try.prog 60 #[v, u] w (Gives w.heap.size 2 1 L.length (intsRow (endsOf L P)) w) := by
  have h7 := areJobs_le hj
  have hlP := (planOk_iff.1 hp).1
  have hP7 : P.length ≤ 7 := by omega
  have HlP := Lib.hid hlP
  clear hlP
  obtain ⟨A, c, rfl, hl, hc, hr⟩ := hv
  obtain ⟨A', c', rfl, hl', hc', hr'⟩ := hu
  have Hr := Lib.hid hr
  have Hr' := Lib.hid hr'
  clear hr hr' hl hc hl' hc'
  obtain ⟨i0, hi, hz0, hz1, hz2⟩ := info_parts Try.info_ints
  go_enter Try.func60, Try.ntmps60
  go_wp2_with (at_make; refine wpList_make_full _ rfl _ _ 38 rfl w.heap.size 2 i0 _ 1 Try.underlying38 hi hz0 hz1 _ _ _ _ L.length rfl rfl rfl rfl (by rw [hz2]; omega) (by unfold maxLen; omega) (Nat.le_refl _) ?_; intro w1 hown hgr)
  have hb1 := (Below.refl w.heap.size w).grown hgr (Nat.le_refl _) (fun _ h => by cases h)
  have hz : (madeCells (Value.int .i64 0).cells (L.length * 1)).toList = intsRow (List.replicate L.length 0) := by
    rw [Nat.mul_one]; show (madeCells #[Value.int .i64 0] L.length).toList = _
    rw [toList_madeCells_one]; simp [intsRow]
  rw [hz] at hown
  have Hown := Lib.hid hown
  clear hgr hown hz
  go_wp2
  go_loopw [6, 7] (fun s i wr => ∃ (k : Nat) (out : List Int) (now : Int), k ≤ P.length ∧ out = endsGo L (P.take k) 0 (List.replicate L.length 0) ∧ now = nowGo L (P.take k) ∧ i = .int .i64 k ∧ s = .int .i64 now ∧
      wr.ownsRow w.heap.size 2 1 (.slice (some ⟨w.heap.size, 0, none⟩) L.length L.length) L.length (intsRow out) ∧ Below w.heap.size w wr) (fun _ i _ => P.length - (intOf i).toNat)
  case atStart => exact ⟨0, List.replicate L.length 0, 0, Nat.zero_le _, rfl, rfl, rfl, rfl, Hown.out, hb1⟩
  case round =>
    obtain ⟨k, out, now, hk, hout, hnow, rfl, rfl, ho, hb⟩ := hrel
    have Hout := Lib.hid hout
    have hbd := nowGo_plan hj hp hk
    rw [← hnow] at hbd
    have Hnow := Lib.hid hnow
    clear hout hnow
    have hsz := hb.size
    by_cases hlt : k < P.length
    · obtain ⟨g', o', rfl, hg', c0⟩ := (Hr'.out.below hb (Nat.le_refl _)).ints hlt
      obtain ⟨b, hbe, hbl⟩ := planOk_at hp hlt
      have Hbe := Lib.hid hbe
      rw [hbe] at c0
      clear hbe
      obtain ⟨g, o, rfl, hg, e0, e1, e2⟩ := (Hr.out.below hb (Nat.le_refl _)).job hbl
      have hjb := areJobs_at hj hbl
      obtain ⟨x0, d0⟩ := own_cell ho (j := b) (by omega)
      have f0 := ho.frozenAt b
      have Ho := Lib.hid ho
      clear ho
      go_wp2
      go_roundw
      case rel =>
        have en : now + (jobAt L b).min = nowGo L (P.take (k + 1)) := by rw [nowGo_take L P hlt, ← Hnow.out, Hbe.out]; rfl
        refine ⟨k + 1, out.set b (now + (jobAt L b).min), now + (jobAt L b).min, by omega, ?_, en, by go_num, rfl, ?_, hb.setCell (Nat.le_refl _) _⟩
        · rw [endsOf_take L P hlt, ← en, ← Hout.out, Hbe.out]; rfl
        · have := (Ho.out.stored b (.int .i64 (now + (jobAt L b).min))).1
          rw [intsRow_set] at this; exact this
      case measure => simp [intOf]; omega
    · have Ho := Lib.hid ho
      clear ho
      go_wp2
      go_ret
      refine ⟨_, rfl, ?_, hb⟩
      have e : out = endsOf L P := by rw [Hout.out, endsOf, List.take_of_length_le (by omega)]
      rw [← e]; exact Ho.out

/-- By how much each job is late. -/
def lateOf (L : List Job) (P : List Int) : List Int := (List.range L.length).map fun i => max 0 (intsAt (endsOf L P) i - (jobAt L i).due)
theorem lateOf_len (L : List Job) (P : List Int) : (lateOf L P).length = L.length := by simp [lateOf]
theorem lateOf_at (L : List Job) (P : List Int) {i : Nat} (h : i < L.length) : intsAt (lateOf L P) i = max 0 (intsAt (endsOf L P) i - (jobAt L i).due) := by
  simp [lateOf, intsAt, List.getD, h]
theorem endsGo_bd {L : List Job} (h : areJobs L = true) : ∀ (P : List Int) (now : Int) (out : List Int), (∀ p ∈ P, 0 ≤ p ∧ p < L.length) → 0 ≤ now → (∀ x ∈ out, 0 ≤ x ∧ x ≤ now) → ∀ x ∈ endsGo L P now out, 0 ≤ x ∧ x ≤ now + 1000 * P.length := by
  intro P
  induction P with
  | nil => intro now out _ _ ho x hx; have := ho x hx; simp; omega
  | cons p ps ih =>
    intro now out hp h0 ho x hx
    have hp0 := hp p (by simp)
    have hj := areJobs_at h (i := p.toNat) (by omega)
    have := ih (now + (jobAt L p.toNat).min) (out.set p.toNat (now + (jobAt L p.toNat).min)) (fun q hq => hp q (by simp [hq])) (by omega) (fun y hy => by
      rcases List.mem_or_eq_of_mem_set hy with hy | rfl
      · have := ho y hy; omega
      · omega) x (by rw [endsGo] at hx; exact hx)
    simp only [List.length_cons]
    omega
theorem endsOf_bd {L : List Job} {P : List Int} (h : areJobs L = true) (h2 : planOk L.length P = true) {i : Nat} (hi : i < L.length) : 0 ≤ intsAt (endsOf L P) i ∧ intsAt (endsOf L P) i ≤ 7000 := by
  have h7 := areJobs_le h
  have hl := (planOk_iff.1 h2).1
  have hp : ∀ p ∈ P, 0 ≤ p ∧ p < L.length := fun p hp => by
    obtain ⟨k, hk, rfl⟩ := List.mem_iff_getElem.1 hp
    have := (planOk_iff.1 h2).2 k hk
    rw [intsAt_lt hk] at this
    exact ⟨this.1, this.2.1⟩
  have hlen : i < (endsOf L P).length := by rw [endsOf_length]; exact hi
  have := endsGo_bd h P 0 (List.replicate L.length 0) hp (Int.le_refl _) (fun x hx => by rw [(List.mem_replicate.1 hx).2]; omega) (intsAt (endsOf L P) i) (by rw [intsAt_lt hlen]; exact List.getElem_mem hlen)
  omega

set_option maxHeartbeats 2000000 in
theorem implLate_any (w : World) (L : List Job) (v : Value) (P : List Int) (u : Value) (hv : Sl w 3 v L.length (jobRow L)) (hu : Sl w 1 u P.length (intsRow P)) (hj : areJobs L = true) (hp : planOk L.length P = true) :
    Calls Try.prog 66 #[v, u] w (Gives w.heap.size 2 1 L.length (intsRow (lateOf L P)) w) := by
  have h7 := areJobs_le hj
  have Hu := Lib.hid hu
  have Hv := Lib.hid hv
  clear hu
  obtain ⟨A, c, rfl, hl, hc, hr⟩ := hv
  have Hr := Lib.hid hr
  clear hr hl hc
  go_enter Try.func66, Try.ntmps66
  go_wp2_with fail
  refine (implEnds_any w L _ P u Hv.out Hu.out hj hp).mono ?_
  rintro e w1 ⟨y, rfl, ho1, hb1⟩
  obtain ⟨A1, c1, rfl, _, _⟩ := own_slice ho1
  have Ho1 := Lib.hid ho1
  clear ho1
  go_wp2
  go_loopw [13] (fun i wr => ∃ (k : Nat) (out : List Int), k ≤ L.length ∧ out.length = L.length ∧ (∀ i, i < k → intsAt out i = intsAt (lateOf L P) i) ∧ (∀ i, k ≤ i → intsAt out i = intsAt (endsOf L P) i) ∧ i = .int .i64 k ∧
      wr.ownsRow w.heap.size 2 1 (.slice A1 L.length c1) L.length (intsRow out) ∧ Below w.heap.size w wr) (fun i _ => L.length - (intOf i).toNat)
  case atStart => exact ⟨0, endsOf L P, Nat.zero_le _, endsOf_length L P, fun i h => absurd h (by omega), fun _ _ => rfl, rfl, Ho1.out, hb1⟩
  case round =>
    obtain ⟨k, out, hk, hol, ho1, ho2, rfl, ho, hb⟩ := hrel
    have H1 := Lib.hid ho1
    have H2 := Lib.hid ho2
    have Hol := Lib.hid hol
    clear ho1 ho2 hol
    have hsz := hb.size
    by_cases hlt : k < L.length
    · obtain ⟨g, o, rfl, hg, e0, e1, e2⟩ := (Hr.out.below hb (Nat.le_refl _)).job hlt
      have hjb := areJobs_at hj hlt
      have hend := endsOf_bd hj hp hlt
      rw [← H2.out k (Nat.le_refl _)] at hend
      obtain ⟨g1, cc, hA1, hgb, hgl⟩ := own_form ho (by omega)
      injection hA1 with hA1 hn1 hc1
      subst hA1
      clear hn1 hc1 cc
      have d0 : wr.cell? ⟨g1, k, none⟩ = some (.int .i64 (intsAt out k)) := (ho.cellAt k (by omega)).trans (intsRow_at out k (by rw [Hol.out]; exact hlt))
      have f0 := ho.frozenAt k
      have Ho := Lib.hid ho
      clear ho
      have i0 : (0 : Int) ≤ (k : Int) := Int.natCast_nonneg _
      have i1 : (k : Int) < (L.length : Int) := by omega
      have d1 : ∀ o, (wr.alloc o).cell? ⟨g1, k, none⟩ = some (.int .i64 (intsAt out k)) := fun o => (World.cell?_alloc_lt _ _ _ hgl).trans d0
      have f1 : ∀ o, (wr.alloc o).frozen? ⟨g1, k, none⟩ = false := fun o => (World.frozen?_alloc_old _ _ _ (by show g1 ≠ wr.heap.size; omega)).trans f0
      go_wp2
      go_region
      go_wp2
      go_roundw
      case rel =>
        refine ⟨k + 1, out.set k (max 0 (intsAt out k - (jobAt L k).due)), by omega, by rw [List.length_set]; exact Hol.out, fun i hi => ?_, fun i hi => ?_, by go_num, ?_, ?_⟩
        · rw [intsAt_set (by have := Hol.out; omega)]
          split
          · subst i; rw [lateOf_at _ _ hlt, H2.out k (Nat.le_refl _)]
          · exact H1.out i (by omega)
        · rw [intsAt_set (by have := Hol.out; omega), if_neg (by omega)]; exact H2.out i (by omega)
        · have em : max 0 (intsAt out k - (jobAt L k).due) = if (jobAt L k).due < intsAt out k then intsAt out k - (jobAt L k).due else 0 := by split <;> omega
          rw [em, ← intsRow_set]
          exact ((Ho.out.stored k _).1.alloc _).drew
        · exact ((hb.setCell hgb _).alloc (by simp [World.setCell]; omega) _).drew
      case measure => simp [intOf]; omega
    · have Ho := Lib.hid ho
      clear ho
      go_wp2
      go_ret
      refine ⟨_, rfl, ?_, hb⟩
      have e : out = lateOf L P := ints_ext (by rw [Hol.out, lateOf_len]) (fun i hi => H1.out i (by have := Hol.out; omega))
      rw [← e]; exact Ho.out

set_option maxHeartbeats 2000000 in
theorem specLate_any (w : World) (L : List Job) (v : Value) (P : List Int) (u : Value) (hv : Sl w 3 v L.length (jobRow L)) (hu : Sl w 1 u P.length (intsRow P)) (hj : areJobs L = true) (hp : planOk L.length P = true) :
    Calls Try.prog 64 #[v, u] w (Gives w.heap.size 2 1 L.length (intsRow (lateOf L P)) w) := by
  have h7 := areJobs_le hj
  have Hu := Lib.hid hu
  have Hv := Lib.hid hv
  clear hu
  obtain ⟨A, c, rfl, hl, hc, hr⟩ := hv
  have Hr := Lib.hid hr
  clear hr hl hc
  go_enter Try.func64, Try.ntmps64
  go_wp2_with fail
  refine (specEnds_any w L _ P u Hv.out Hu.out hj hp).mono ?_
  rintro e w1 ⟨y, rfl, ho1, hb1⟩
  obtain ⟨A1, c1, rfl, _, _⟩ := own_slice ho1
  have Ho1 := Lib.hid ho1
  clear ho1
  go_wp2
  go_loopw [6] (fun i wr => ∃ (k : Nat) (out : List Int), k ≤ L.length ∧ out.length = L.length ∧ (∀ i, i < k → intsAt out i = intsAt (lateOf L P) i) ∧ (∀ i, k ≤ i → intsAt out i = intsAt (endsOf L P) i) ∧ i = .int .i64 k ∧
      wr.ownsRow w.heap.size 2 1 (.slice A1 L.length c1) L.length (intsRow out) ∧ Below w.heap.size w wr) (fun i _ => L.length - (intOf i).toNat)
  case atStart => exact ⟨0, endsOf L P, Nat.zero_le _, endsOf_length L P, fun i h => absurd h (by omega), fun _ _ => rfl, rfl, Ho1.out, hb1⟩
  case round =>
    obtain ⟨k, out, hk, hol, ho1, ho2, rfl, ho, hb⟩ := hrel
    have H1 := Lib.hid ho1
    have H2 := Lib.hid ho2
    have Hol := Lib.hid hol
    clear ho1 ho2 hol
    have hsz := hb.size
    by_cases hlt : k < L.length
    · obtain ⟨g, o, rfl, hg, e0, e1, e2⟩ := (Hr.out.below hb (Nat.le_refl _)).job hlt
      have hjb := areJobs_at hj hlt
      have hend := endsOf_bd hj hp hlt
      rw [← H2.out k (Nat.le_refl _)] at hend
      obtain ⟨g1, cc, hA1, hgb, hgl⟩ := own_form ho (by omega)
      injection hA1 with hA1 hn1 hc1
      subst hA1
      clear hn1 hc1 cc
      have d0 : wr.cell? ⟨g1, k, none⟩ = some (.int .i64 (intsAt out k)) := (ho.cellAt k (by omega)).trans (intsRow_at out k (by rw [Hol.out]; exact hlt))
      have f0 := ho.frozenAt k
      have Ho := Lib.hid ho
      clear ho
      have i0 : (0 : Int) ≤ (k : Int) := Int.natCast_nonneg _
      have i1 : (k : Int) < (L.length : Int) := by omega
      go_wp2
      go_region
      go_wp2
      go_roundw
      case rel =>
        refine ⟨k + 1, out.set k (max 0 (intsAt out k - (jobAt L k).due)), by omega, by rw [List.length_set]; exact Hol.out, fun i hi => ?_, fun i hi => ?_, by go_num, ?_, ?_⟩
        · rw [intsAt_set (by have := Hol.out; omega)]
          split
          · subst i; rw [lateOf_at _ _ hlt, H2.out k (Nat.le_refl _)]
          · exact H1.out i (by omega)
        · rw [intsAt_set (by have := Hol.out; omega), if_neg (by omega)]; exact H2.out i (by omega)
        · have em : max 0 (intsAt out k - (jobAt L k).due) = if (jobAt L k).due < intsAt out k then intsAt out k - (jobAt L k).due else 0 := by split <;> omega
          rw [em, ← intsRow_set]
          exact (Ho.out.stored k _).1.drew
        · exact (hb.setCell hgb _).drew
      case measure => simp [intOf]; omega
    · have Ho := Lib.hid ho
      clear ho
      go_wp2
      go_ret
      refine ⟨_, rfl, ?_, hb⟩
      have e : out = lateOf L P := ints_ext (by rw [Hol.out, lateOf_len]) (fun i hi => H1.out i (by have := Hol.out; omega))
      rw [← e]; exact Ho.out

end Go.Proofs.Ytfkindkekjafnaa
