/- The least lateness, the fewest late jobs: by masks, and over all plans. No walks. -/
import Derived.Test.YtfkindkekjafnaaBestM
import Derived.Test.YtfkindkekjafnaaEnds
namespace Go.Proofs.Ytfkindkekjafnaa
open Go.RowKit

/-- The minutes of the jobs of a mask, among the first k. -/
def minM (L : List Job) (m : Nat) : Nat → Int
  | 0 => 0
  | k + 1 => if m.testBit k = true then minM L m k + (jobAt L k).min else minM L m k
def lateM (L : List Job) (m i : Nat) : Int := max 0 (minM L m L.length - (jobAt L i).due)
def stLate (L : List Job) (m i : Nat) : Int := lateM L (m ||| 2 ^ i) i
def stCnt (L : List Job) (m i : Nat) : Int := if 0 < lateM L (m ||| 2 ^ i) i then 1 else 0
theorem minM_bd {L : List Job} (h : areJobs L = true) (m : Nat) : ∀ k, k ≤ L.length → 0 ≤ minM L m k ∧ minM L m k ≤ 1000 * k := by
  intro k
  induction k with
  | zero => intro _; simp [minM]
  | succ k ih =>
    intro hk
    have h1 := ih (by omega)
    have h2 := areJobs_at h (show k < L.length by omega)
    rw [minM]; split <;> omega
theorem due_nn {L : List Job} (h : areJobs L = true) (i : Nat) : 0 ≤ (jobAt L i).due := by
  by_cases hi : i < L.length
  · exact (areJobs_at h hi).2.2.1
  · have : jobAt L i = default := by simp [jobAt, List.getD, List.getElem?_eq_none (by omega : L.length ≤ i)]
    rw [this]; exact Int.le_refl _
theorem lateM_bd {L : List Job} (h : areJobs L = true) (m i : Nat) : 0 ≤ lateM L m i ∧ lateM L m i ≤ 7000 := by
  have h1 := minM_bd h m L.length (Nat.le_refl _)
  have h2 := areJobs_le h
  have h3 := due_nn h i
  unfold lateM; omega
theorem stLate_bd {L : List Job} (h : areJobs L = true) (m i : Nat) : 0 ≤ stLate L m i ∧ stLate L m i ≤ 7000 := lateM_bd h _ _
theorem stLate_nn (L : List Job) (m i : Nat) : 0 ≤ stLate L m i := by unfold stLate lateM; omega
theorem stCnt_bd (L : List Job) (m i : Nat) : 0 ≤ stCnt L m i ∧ stCnt L m i ≤ 1 := by unfold stCnt; split <;> omega
theorem minM_or {L : List Job} {m b : Nat} (hb : m.testBit b = false) : ∀ k, minM L (m ||| 2 ^ b) k = minM L m k + if b < k then (jobAt L b).min else 0
  | 0 => by simp [minM]
  | k + 1 => by
    rw [minM, minM, minM_or hb k, Nat.testBit_or, Nat.testBit_two_pow]
    by_cases e : b = k
    · subst e; rw [hb]; simp
    · have e2 : decide (b = k) = false := by simpa using e
      rw [e2, Bool.or_false]
      by_cases h3 : b < k
      · have h4 : b < k + 1 := by omega
        cases hk : m.testBit k <;> simp only [h3, h4, ↓reduceIte, Bool.false_eq_true] <;> omega
      · have h4 : ¬ b < k + 1 := by omega
        cases hk : m.testBit k <;> simp only [h3, h4, ↓reduceIte, Bool.false_eq_true] <;> omega

/-! ### Plans: each index once -/
theorem PartP.take {n : Nat} {P : List Int} (h : PartP n P) (k : Nat) : PartP n (P.take k) :=
  ⟨List.Sublist.nodup (List.take_sublist k P) h.nodup, fun p hp => h.lt p (List.mem_of_mem_take hp)⟩
theorem PartP.at_ {n : Nat} {P : List Int} (h : PartP n P) {k : Nat} (hk : k < P.length) : ∃ b : Nat, intsAt P k = b ∧ b < n ∧ (b : Int) ∉ P.take k ∧ P.take (k + 1) = P.take k ++ [(b : Int)] := by
  obtain ⟨b, hb, hbn⟩ := h.lt (intsAt P k) (by rw [intsAt_lt hk]; exact List.getElem_mem hk)
  have e : P.take (k + 1) = P.take k ++ [(b : Int)] := by rw [take_snoc P 0 hk, ← hb]; rfl
  refine ⟨b, hb, hbn, fun hm => ?_, e⟩
  have h1 := (h.take (k + 1)).nodup
  rw [e, List.nodup_append] at h1
  exact h1.2.2 _ hm _ (by simp) rfl
theorem PartP.zer_eq {n : Nat} {P : List Int} (h : PartP n P) : ∀ k, k ≤ P.length → zeros n (maskOf (P.take k)) + k = n := by
  intro k
  induction k with
  | zero => intro _; rw [List.take_zero, mask_nil, zeros_zero]; rfl
  | succ k ih =>
    intro hk
    have h1 := ih (by omega)
    obtain ⟨b, _, hbn, hn, e⟩ := h.at_ (show k < P.length by omega)
    have hf : (maskOf (P.take k)).testBit b = false := by rw [(h.take k).bit]; simpa using hn
    have h2 := zeros_or _ b hf n
    rw [if_pos hbn] at h2
    rw [e, maskOf_snoc]; simp only [Int.toNat_natCast]; omega
theorem PartP.full {n : Nat} {P : List Int} (h : PartP n P) (hl : P.length = n) {i : Nat} (hi : i < n) : (i : Int) ∈ P := by
  have h1 := h.zer_eq n (by omega)
  rw [List.take_of_length_le (by omega)] at h1
  have h2 : zeros n (maskOf P) = 0 := by omega
  unfold zeros at h2
  rw [List.countP_eq_zero] at h2
  have h3 := h2 i (List.mem_range.2 hi)
  rw [h.bit] at h3
  simpa using h3
theorem PartP.planOk {n : Nat} {P : List Int} (h : PartP n P) (hl : P.length = n) : planOk n P = true := by
  rw [planOk_iff]
  refine ⟨hl, fun i hi => ?_⟩
  obtain ⟨b, hb, hbn, hn, _⟩ := h.at_ hi
  refine ⟨by omega, by omega, fun j hj e => hn ?_⟩
  rw [← hb, ← e, intsAt_lt (by omega)]
  exact List.mem_take_iff_getElem.2 ⟨j, by omega, rfl⟩
theorem planOk_part {n : Nat} {P : List Int} (h : planOk n P = true) : PartP n P ∧ P.length = n := by
  obtain ⟨h1, h2⟩ := planOk_iff.1 h
  refine ⟨⟨?_, fun p hp => ?_⟩, h1⟩
  · rw [List.nodup_iff_pairwise_ne, List.pairwise_iff_getElem]
    intro i j hi hj hij e
    exact (h2 j hj).2.2 i hij (by rw [intsAt_lt hi, intsAt_lt hj]; exact e)
  · obtain ⟨i, hi, rfl⟩ := List.mem_iff_getElem.1 hp
    have := h2 i hi
    rw [intsAt_lt hi] at this
    exact ⟨P[i].toNat, by omega, by omega⟩

/-! ### A sum over all indices is a sum along the plan -/
def sumN (g : Nat → Int) : Nat → Int
  | 0 => 0
  | k + 1 => sumN g k + g k
theorem sumN_congr {g h : Nat → Int} : ∀ n, (∀ i, i < n → g i = h i) → sumN g n = sumN h n
  | 0, _ => rfl
  | n + 1, e => by rw [sumN, sumN, sumN_congr n (fun i hi => e i (by omega)), e n (by omega)]
theorem sumN_map (g : Nat → Int) (n : Nat) : ((List.range n).map g).sum = sumN g n := by
  induction n with
  | zero => rfl
  | succ n ih => rw [List.range_succ, List.map_append, List.sum_append, ih, sumN]; simp
theorem sumN_one (g : Nat → Int) (Q : List Int) (b : Nat) (hn : (b : Int) ∉ Q) : ∀ n, sumN (fun i => if (i : Int) ∈ Q ++ [(b : Int)] then g i else 0) n = sumN (fun i => if (i : Int) ∈ Q then g i else 0) n + if b < n then g b else 0
  | 0 => by simp [sumN]
  | n + 1 => by
    rw [sumN, sumN, sumN_one g Q b hn n]
    by_cases e : n = b
    · subst e
      simp only [hn, Nat.lt_irrefl, Nat.lt_succ_self, List.mem_append, List.mem_singleton, or_true, ↓reduceIte]
    · have e2 : ((n : Int) ∈ Q ++ [(b : Int)]) ↔ (n : Int) ∈ Q := by
        rw [List.mem_append, List.mem_singleton]
        constructor
        · rintro (h | h)
          · exact h
          · omega
        · exact .inl
      have e3 : (if (n : Int) ∈ Q ++ [(b : Int)] then g n else 0) = if (n : Int) ∈ Q then g n else 0 := by
        by_cases hm : (n : Int) ∈ Q
        · rw [if_pos hm, if_pos (e2.2 hm)]
        · rw [if_neg hm, if_neg (fun h => hm (e2.1 h))]
      rw [e3]
      by_cases h3 : b < n
      · have h4 : b < n + 1 := by omega
        simp only [h3, h4, ↓reduceIte]; omega
      · have h4 : ¬ b < n + 1 := by omega
        simp only [h3, h4, ↓reduceIte]; omega
theorem costGo_take (st : Nat → Nat → Int) {n : Nat} {P : List Int} (h : PartP n P) {k : Nat} (hk : k < P.length) : costGo st 0 (P.take (k + 1)) = costGo st 0 (P.take k) + st (maskOf (P.take k)) (intsAt P k).toNat := by
  obtain ⟨b, hb, _, _, e⟩ := h.at_ hk
  rw [e, costGo_snoc, hb]; rfl
theorem sum_plan {st : Nat → Nat → Int} {g : Nat → Int} {n : Nat} {P : List Int} (h : PartP n P) (hl : P.length = n) (hg : ∀ k, k < P.length → g (intsAt P k).toNat = st (maskOf (P.take k)) (intsAt P k).toNat) : sumN g n = costGo st 0 P := by
  have key : ∀ k, k ≤ P.length → sumN (fun i => if (i : Int) ∈ P.take k then g i else 0) n = costGo st 0 (P.take k) := by
    intro k
    induction k with
    | zero =>
      intro _
      have : ∀ m, sumN (fun i => if (i : Int) ∈ P.take 0 then g i else 0) m = 0 := by
        intro m; induction m with
        | zero => rfl
        | succ m ih => rw [sumN, ih]; simp
      rw [this]; simp [costGo]
    | succ k ih =>
      intro hk
      obtain ⟨b, hb, hbn, hn, e⟩ := h.at_ (show k < P.length by omega)
      rw [costGo_take st h (by omega), e, sumN_one g _ b hn, ih (by omega), if_pos hbn, ← hg k (by omega), hb]; rfl
  have := key P.length (Nat.le_refl _)
  rw [List.take_length] at this
  rw [← this]
  exact sumN_congr n (fun i hi => by rw [if_pos (h.full hl hi)])
/-- When the job at place k of a plan ends. -/
theorem now_mask {L : List Job} {P : List Int} (h : PartP L.length P) : ∀ k, k ≤ P.length → nowGo L (P.take k) = minM L (maskOf (P.take k)) L.length := by
  intro k
  induction k with
  | zero =>
    intro _
    have : ∀ m, minM L 0 m = 0 := by intro m; induction m with
      | zero => rfl
      | succ m ih => rw [minM]; simp [ih]
    rw [List.take_zero, mask_nil, this]; rfl
  | succ k ih =>
    intro hk
    obtain ⟨b, hb, hbn, hn, e⟩ := h.at_ (show k < P.length by omega)
    have hf : (maskOf (P.take k)).testBit b = false := by rw [(h.take k).bit]; simpa using hn
    rw [nowGo_take L P (by omega), ih (by omega), hb, e, maskOf_snoc]
    simp only [Int.toNat_natCast]
    rw [minM_or hf, if_pos hbn]
theorem ends_at {L : List Job} {P : List Int} (h : PartP L.length P) : ∀ k, k ≤ P.length → ∀ j, j < k → intsAt (endsGo L (P.take k) 0 (List.replicate L.length 0)) (intsAt P j).toNat = nowGo L (P.take (j + 1)) := by
  intro k
  induction k with
  | zero => intro _ j hj; omega
  | succ k ih =>
    intro hk j hj
    obtain ⟨b, hb, hbn, hn, e⟩ := h.at_ (show k < P.length by omega)
    rw [endsOf_take L P (by omega), intsAt_set (by rw [endsGo_len, hb]; simpa using hbn)]
    by_cases e2 : j = k
    · subst e2; rw [if_pos rfl]
    · rw [if_neg (fun e3 => ?_), ih (by omega) j (by omega)]
      obtain ⟨c, hc, _, _⟩ := h.at_ (show j < P.length by omega)
      rw [hb, hc] at e3
      have e4 : c = b := by simpa using e3
      subst e4
      refine hn ?_
      rw [← hc, intsAt_lt (by omega)]
      exact List.mem_take_iff_getElem.2 ⟨j, by omega, rfl⟩
theorem late_at {L : List Job} {P : List Int} (h : PartP L.length P) {k : Nat} (hk : k < P.length) : intsAt (lateOf L P) (intsAt P k).toNat = stLate L (maskOf (P.take k)) (intsAt P k).toNat := by
  obtain ⟨b, hb, hbn, hn, e⟩ := h.at_ hk
  have h1 := ends_at h P.length (Nat.le_refl _) k hk
  rw [List.take_length] at h1
  rw [hb] at h1 ⊢
  simp only [Int.toNat_natCast] at h1 ⊢
  have h2 : intsAt (endsOf L P) b = nowGo L (P.take (k + 1)) := h1
  rw [lateOf_at L P hbn, h2, now_mask h _ (by omega), stLate, lateM, e, maskOf_snoc]
  simp only [Int.toNat_natCast]
theorem late_sum {L : List Job} {P : List Int} (h : PartP L.length P) (hl : P.length = L.length) : (lateOf L P).sum = costGo (stLate L) 0 P := by
  have e : (lateOf L P).sum = sumN (fun i => intsAt (lateOf L P) i) L.length := by
    have : lateOf L P = (List.range L.length).map fun i => intsAt (lateOf L P) i := by
      conv => lhs; unfold lateOf
      refine List.map_congr_left (fun i hi => ?_)
      rw [lateOf_at L P (List.mem_range.1 hi)]
    conv => lhs; rw [this]
    exact sumN_map _ _
  rw [e]
  exact sum_plan h hl (fun k hk => late_at h hk)
/-- How many are above 0. -/
def cntPos (D : List Int) : Nat → Int
  | 0 => 0
  | k + 1 => cntPos D k + if 0 < intsAt D k then 1 else 0
theorem cntPos_bd (D : List Int) : ∀ k, 0 ≤ cntPos D k ∧ cntPos D k ≤ k
  | 0 => by simp [cntPos]
  | k + 1 => by have := cntPos_bd D k; rw [cntPos]; split <;> omega
theorem cntPos_sum (D : List Int) : ∀ k, cntPos D k = sumN (fun i => if 0 < intsAt D i then 1 else 0) k
  | 0 => rfl
  | k + 1 => by rw [cntPos, cntPos_sum D k, sumN]
theorem late_cnt {L : List Job} {P : List Int} (h : PartP L.length P) (hl : P.length = L.length) : cntPos (lateOf L P) L.length = costGo (stCnt L) 0 P := by
  rw [cntPos_sum]
  refine sum_plan h hl (fun k hk => ?_)
  simp only [late_at h hk]
  rfl
/-! ### What the functions give -/
def bestPlan (L : List Job) : List Int × Int × Int := if areJobs L = true then (takeM L.length (stLate L) 0, leastM L.length (stLate L) 0, 0) else ([], 0, 1)
def fewestLate (L : List Job) : Int × Int := if areJobs L = true then (leastM L.length (stCnt L) 0, 0) else (0, 1)
theorem takeM_len (L : List Job) : (takeM L.length (stLate L) 0).length = L.length := (takeM_is (stLate_nn L)).2.1
theorem bestPlan_len (L : List Job) : (bestPlan L).1.length ≤ 4194304 := by
  unfold bestPlan; split
  · rename_i h
    have := areJobs_le h
    simp only [takeM_len]; omega
  · simp
/-- The reference's loops over all plans. -/
theorem best_plans (L : List Job) : (plansR L.length L.length []).foldl (pickP fun p => (lateOf L p).sum) ([], -1) = (takeM L.length (stLate L) 0, leastM L.length (stLate L) 0) := by
  rw [← best_all (stLate_nn L)]
  have : ∀ (ps : List (List Int)) (a : List Int × Int), (∀ p ∈ ps, PartP L.length p ∧ p.length = L.length) → ps.foldl (pickP fun p => (lateOf L p).sum) a = ps.foldl (pickP (costGo (stLate L) 0)) a := by
    intro ps
    induction ps with
    | nil => intro a _; rfl
    | cons p ps ih =>
      intro a h
      have hp := h p (by simp)
      rw [List.foldl_cons, List.foldl_cons, ih _ (fun q hq => h q (by simp [hq]))]
      congr 1
      simp only [pickP, late_sum hp.1 hp.2]
  exact this _ _ (fun p hp => by have := plans_all L.length [] (PartP.nil _) p hp; simpa using this)
theorem fewest_plans (L : List Job) : (plansR L.length L.length []).foldl (fun x p => min x (cntPos (lateOf L p) L.length)) (L.length : Int) = leastM L.length (stCnt L) 0 := by
  have hall : ∀ p ∈ plansR L.length L.length [], PartP L.length p ∧ p.length = L.length := fun p hp => by have := plans_all L.length [] (PartP.nil _) p hp; simpa using this
  rw [← least_all (N := (L.length : Int)) (fun m i => (stCnt_bd L m i).1) (fun p hp => by have h1 := hall p hp; rw [← late_cnt h1.1 h1.2]; exact (cntPos_bd _ _).2)]
  have : ∀ (ps : List (List Int)) (a : Int), (∀ p ∈ ps, PartP L.length p ∧ p.length = L.length) → ps.foldl (fun x p => min x (cntPos (lateOf L p) L.length)) a = ps.foldl (fun x p => min x (costGo (stCnt L) 0 p)) a := by
    intro ps
    induction ps with
    | nil => intro a _; rfl
    | cons p ps ih =>
      intro a h
      have hp := h p (by simp)
      rw [List.foldl_cons, List.foldl_cons, ih _ (fun q hq => h q (by simp [hq])), late_cnt hp.1 hp.2]
  exact this _ _ hall
end Go.Proofs.Ytfkindkekjafnaa
