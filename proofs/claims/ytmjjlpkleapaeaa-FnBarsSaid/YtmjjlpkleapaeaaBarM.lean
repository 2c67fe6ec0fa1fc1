/- The plain laws of FnBars: what is cut from each bar, the fewest bars, a convex triangle. No walks. -/
import Derived.Test.YtmjjlpkleapaeaaFewG
import Derived.Test.YtmjjlpkleapaeaaConvex
namespace Go.Proofs.Ytmjjlpkleapaeaa
open Go.RowKit

theorem root_ex : ∀ n : Nat, ∃ r : Int, IsRoot n r
  | 0 => ⟨0, by omega, by omega, by omega⟩
  | n + 1 => by
    obtain ⟨r, h0, h1, h2⟩ := root_ex n
    have e : (r + 1 + 1) * (r + 1 + 1) = (r + 1) * (r + 1) + 2 * (r + 1) + 1 := by
      rw [Int.add_mul (r + 1) 1, Int.mul_add (r + 1)]; omega
    by_cases h : ((n + 1 : Nat) : Int) < (r + 1) * (r + 1)
    · exact ⟨r, h0, by omega, h⟩
    · exact ⟨r + 1, by omega, by omega, by omega⟩
theorem lenT_bd {L : List Tube} (h : areTubes L = true) {i : Nat} (hi : i < L.length) : 1 ≤ lenT (tubeAt L i) ∧ lenT (tubeAt L i) ≤ 2829 := by
  obtain ⟨h1, h2, h3⟩ := sqT_bd h hi
  unfold lenT
  have e : 0 < sqT (tubeAt L i) ∧ sqT (tubeAt L i) ≤ 8000000 := by unfold sqT; omega
  obtain ⟨n, hn⟩ := Int.eq_ofNat_of_zero_le (show 0 ≤ sqT (tubeAt L i) by omega)
  exact rootUp_bd e.1 e.2 (by rw [hn]; exact root_ex n)
/-! ### What is cut from each bar -/
def barLeft (n : Nat) (bar : Int) (l : List Int) : List Int := (List.range n).map fun b => if b < l.length then bar + 3 - intsAt l b else 0
theorem barLeft_len (n : Nat) (bar : Int) (l : List Int) : (barLeft n bar l).length = n := by simp [barLeft]
theorem barLeft_at {n : Nat} (bar : Int) (l : List Int) {b : Nat} (h : b < n) : intsAt (barLeft n bar l) b = if b < l.length then bar + 3 - intsAt l b else 0 := by
  simp [intsAt, barLeft, List.getD, h]
theorem barLeft_nil (n : Nat) (bar : Int) : barLeft n bar [] = List.replicate n 0 := by
  refine ints_ext (by simp [barLeft]) (fun i hi => ?_)
  rw [barLeft_len] at hi
  rw [barLeft_at bar [] hi]
  simp [intsAt, List.getD, hi]
theorem cut_first (bar : Int) (D : List Int) : ∀ k, k ≤ D.length → (cutSt bar D k).1.length = k := by
  intro k
  induction k with
  | zero => intro _; simp [cutSt]
  | succ k ih =>
    intro h
    rw [cutSt_succ bar D (by omega)]
    have := ih (by omega)
    simp [cutStep, this]
theorem cut_at (bar : Int) (D : List Int) {i : Nat} : ∀ k, i < k → k ≤ D.length → intsAt (cutSt bar D k).1 i = ((fitAt (cutSt bar D i).2 (intsAt D i + 3) : Nat) : Int) := by
  intro k
  induction k with
  | zero => intro h; omega
  | succ k ih =>
    intro h hk
    rw [cutSt_succ bar D (by omega)]
    have hl := cut_first bar D k (by omega)
    by_cases h1 : i = k
    · subst h1
      have : (cutStep bar (cutSt bar D i) (intsAt D i)).1 = (cutSt bar D i).1 ++ [((fitAt (cutSt bar D i).2 (intsAt D i + 3) : Nat) : Int)] := rfl
      rw [this]
      conv => lhs; arg 2; rw [← hl]
      rw [intsAt_last]
    · have h2 := ih (by omega) (by omega)
      have : (cutStep bar (cutSt bar D k) (intsAt D k)).1 = (cutSt bar D k).1 ++ [((fitAt (cutSt bar D k).2 (intsAt D k + 3) : Nat) : Int)] := rfl
      rw [this, intsAt_snoc _ _ (by omega)]
      exact h2
theorem cutSt_le {bar : Int} {D : List Int} (hb : 1000 ≤ bar) (hD : ∀ i, i < D.length → 1 ≤ intsAt D i) : ∀ k, k ≤ D.length → ∀ j, j < (cutSt bar D k).2.length → intsAt (cutSt bar D k).2 j ≤ bar + 3 := by
  intro k
  induction k with
  | zero => intro _ j hj; simp [cutSt] at hj
  | succ k ih =>
    intro hk
    have h3 := ih (by omega)
    have hn := hD k (by omega)
    rw [cutSt_succ bar D (by omega)]
    generalize cutSt bar D k = st at h3 ⊢
    obtain ⟨o, l⟩ := st
    simp only at h3
    by_cases hf : fitAt l (intsAt D k + 3) < l.length
    · rw [cutStep_old rfl hf]
      intro j hj
      simp only [List.length_set] at hj
      have h5 := h3 _ hf
      rw [intsAt_set hf]
      split
      · omega
      · exact h3 j hj
    · have hf' : fitAt l (intsAt D k + 3) = l.length := by have := fitAt_le l (intsAt D k + 3); omega
      rw [cutStep_new hf']
      intro j hj
      simp only [List.length_set, List.length_append, List.length_cons, List.length_nil] at hj
      rw [intsAt_set (by simp)]
      split
      · omega
      · rw [intsAt_snoc l _ (by omega)]; exact h3 j (by omega)
theorem bar_step {bar : Int} {D : List Int} (hb : 1000 ≤ bar ∧ bar ≤ 6000) (hD : ∀ i, i < D.length → 1 ≤ intsAt D i) (hD2 : ∀ i, i < D.length → intsAt D i ≤ bar) {k : Nat} (hk : k < D.length) :
    ∃ f : Nat, intsAt (cutSt bar D D.length).1 k = f ∧ f < D.length ∧ 0 ≤ intsAt (barLeft D.length bar (cutSt bar D k).2) f ∧ intsAt (barLeft D.length bar (cutSt bar D k).2) f ≤ bar + 3 ∧
      intsAt (barLeft D.length bar (cutSt bar D k).2) f + intsAt D k + 3 ≤ bar + 3 ∧
      barLeft D.length bar (cutSt bar D (k + 1)).2 = (barLeft D.length bar (cutSt bar D k).2).set f (intsAt (barLeft D.length bar (cutSt bar D k).2) f + intsAt D k + 3) ∧
      ((cutSt bar D (k + 1)).2.length : Int) = max ((cutSt bar D k).2.length : Int) ((f : Int) + 1) := by
  obtain ⟨h1, h2, h3⟩ := cutSt_bd hb hD k (by omega) (fun i hi => hD2 i (by omega))
  have hle3 := cutSt_le hb.1 hD k (by omega)
  have hn := hD k hk
  have hn2 := hD2 k hk
  have hc := cut_at bar D D.length hk (Nat.le_refl _)
  rw [cutSt_succ bar D hk]
  generalize cutSt bar D k = st at h1 h2 h3 hc hle3 ⊢
  obtain ⟨o, l⟩ := st
  simp only at h1 h2 h3 hc hle3 ⊢
  refine ⟨fitAt l (intsAt D k + 3), hc, ?_⟩
  have hle := fitAt_le l (intsAt D k + 3)
  have hlt : fitAt l (intsAt D k + 3) < D.length := by omega
  rw [barLeft_at bar l hlt]
  by_cases hf : fitAt l (intsAt D k + 3) < l.length
  · have h4 := fitAt_ge l _ hf
    have h5 := h3 _ hf
    have h6 := hle3 _ hf
    rw [cutStep_old rfl hf]
    generalize fitAt l (intsAt D k + 3) = f at hc hle hlt hf h4 h5 h6
    simp only [if_pos hf]
    refine ⟨hlt, by omega, by omega, by omega, ?_, ?_⟩
    · refine ints_ext (by simp [barLeft]) (fun i hi => ?_)
      rw [barLeft_len] at hi
      rw [barLeft_at _ _ hi, List.length_set, intsAt_set hf, intsAt_set (l := barLeft D.length bar l) (by rw [barLeft_len]; exact hlt), barLeft_at _ _ hi]
      by_cases e : i = f
      · subst e; rw [if_pos hf, if_pos rfl, if_pos rfl]; omega
      · rw [if_neg e, if_neg e]
    · rw [List.length_set]; omega
  · have hf' : fitAt l (intsAt D k + 3) = l.length := by omega
    rw [cutStep_new hf', hf']
    rw [hf'] at hlt
    simp only [Nat.lt_irrefl, if_false]
    refine ⟨hlt, by omega, by omega, by omega, ?_, ?_⟩
    · refine ints_ext (by simp [barLeft]) (fun i hi => ?_)
      rw [barLeft_len] at hi
      rw [barLeft_at _ _ hi, List.length_set, List.length_append, intsAt_set (l := l ++ [bar + 3]) (by simp), intsAt_set (l := barLeft D.length bar l) (by rw [barLeft_len]; exact hlt), barLeft_at _ _ hi]
      by_cases e : i = l.length
      · subst e; simp; omega
      · rw [if_neg e, if_neg e]
        by_cases e2 : i < l.length
        · rw [if_pos (by simp; omega), if_pos e2, intsAt_snoc _ _ e2]
        · rw [if_neg (by simp; omega), if_neg e2]
    · simp; omega
/-! ### The fewest bars -/
theorem intsAt_app (l m : List Int) {j : Nat} (h : l.length ≤ j) : intsAt (l ++ m) j = intsAt m (j - l.length) := by
  simp [intsAt, List.getD, List.getElem?_append_right h]
theorem set_app (l m : List Int) (x : Int) {j : Nat} (h : j < l.length) : (l ++ m).set j x = l.set j x ++ m := by
  rw [List.set_append, if_pos h]
/-- As they are cut, so they fit. -/
theorem cut_fits {bar : Int} {D : List Int} (hb : 1000 ≤ bar ∧ bar ≤ 6000) (hD : ∀ i, i < D.length → 1 ≤ intsAt D i) (hD2 : ∀ i, i < D.length → intsAt D i ≤ bar) :
    ∀ d k, k + d = D.length → (cutSt bar D k).2.length ≤ (cutSt bar D D.length).2.length ∧
      fits ((D.drop k).map (· + 3)) ((cutSt bar D k).2 ++ wholeBars bar ((cutSt bar D D.length).2.length - (cutSt bar D k).2.length)) = true := by
  intro d
  induction d with
  | zero =>
    intro k hk
    have : k = D.length := by omega
    subst this
    exact ⟨Nat.le_refl _, by rw [List.drop_length]; exact fits_nil _⟩
  | succ d ih =>
    intro k hk
    have hkl : k < D.length := by omega
    obtain ⟨g1, g2⟩ := ih (k + 1) (by omega)
    have hdr : (D.drop k).map (· + 3) = (intsAt D k + 3) :: (D.drop (k + 1)).map (· + 3) := by
      rw [List.drop_eq_getElem_cons hkl, List.map_cons, intsAt_lt hkl]
    rw [hdr]
    rw [cutSt_succ bar D hkl] at g1 g2
    have hn := hD k hkl
    have hn2 := hD2 k hkl
    generalize cutSt bar D k = st at g1 g2 ⊢
    obtain ⟨o, l⟩ := st
    simp only at g1 g2 ⊢
    have hle := fitAt_le l (intsAt D k + 3)
    by_cases hf : fitAt l (intsAt D k + 3) < l.length
    · have h4 := fitAt_ge l _ hf
      rw [cutStep_old rfl hf] at g1 g2
      simp only [List.length_set] at g1 g2
      generalize fitAt l (intsAt D k + 3) = f at hle hf h4 g1 g2
      refine ⟨g1, fits_yes (k := f) (by rw [List.length_append]; omega) (by rw [intsAt_append_lt hf]; exact h4) ?_⟩
      rw [set_app _ _ _ hf, intsAt_append_lt hf]
      exact g2
    · have hf' : fitAt l (intsAt D k + 3) = l.length := by omega
      rw [cutStep_new hf'] at g1 g2
      simp only [List.length_set, List.length_append, List.length_cons, List.length_nil] at g1 g2
      obtain ⟨r, hr⟩ : ∃ r, (cutSt bar D D.length).2.length - l.length = r + 1 := ⟨(cutSt bar D D.length).2.length - l.length - 1, by omega⟩
      rw [hr]
      have hr2 : (cutSt bar D D.length).2.length - (l.length + (0 + 1)) = r := by omega
      rw [hr2] at g2
      have hat : intsAt (l ++ wholeBars bar (r + 1)) l.length = bar + 3 := by
        rw [intsAt_app _ _ (Nat.le_refl _), Nat.sub_self]
        exact wholeBars_at (by omega)
      refine ⟨by omega, fits_yes (k := l.length) (by rw [List.length_append, wholeBars_len]; omega) (by rw [hat]; omega) ?_⟩
      rw [hat]
      have e : (l ++ wholeBars bar (r + 1)).set l.length (bar + 3 - (intsAt D k + 3)) = (l ++ [bar + 3]).set l.length (bar + 3 - (intsAt D k + 3)) ++ wholeBars bar r := by
        have : wholeBars bar (r + 1) = [bar + 3] ++ wholeBars bar r := by simp [wholeBars, List.replicate_succ]
        rw [this, ← List.append_assoc, set_app _ _ _ (by simp)]
      rw [e]
      exact g2
theorem fewGo_law {D : List Int} {bar : Int} : ∀ (f b u : Nat), b ≤ u → u ≤ b + f → fits D (wholeBars bar u) = true → b ≤ fewGo D bar f b ∧ fewGo D bar f b ≤ u ∧ fits D (wholeBars bar (fewGo D bar f b)) = true := by
  intro f
  induction f with
  | zero =>
    intro b u h1 h2 h3
    have : u = b := by omega
    subst this
    exact ⟨Nat.le_refl _, Nat.le_refl _, h3⟩
  | succ f ih =>
    intro b u h1 h2 h3
    rw [fewGo]
    split
    · rename_i h; exact ⟨Nat.le_refl _, h1, h⟩
    · rename_i h
      have hne : b ≠ u := fun e => h (by rw [e]; exact h3)
      obtain ⟨g1, g2, g3⟩ := ih (b + 1) u (by omega) (by omega) h3
      exact ⟨by omega, g2, g3⟩
def sumI (l : List Int) : Int := l.foldl (· + ·) 0
theorem sumI_acc : ∀ (l : List Int) (s : Int), l.foldl (· + ·) s = s + sumI l := by
  intro l
  induction l with
  | nil => intro s; simp [sumI]
  | cons x l ih =>
    intro s
    unfold sumI
    rw [List.foldl_cons, List.foldl_cons, ih, ih (0 + x)]; omega
theorem sumI_cons (x : Int) (l : List Int) : sumI (x :: l) = x + sumI l := by
  unfold sumI; rw [List.foldl_cons, sumI_acc]; unfold sumI; omega
theorem sumI_append (l m : List Int) : sumI (l ++ m) = sumI l + sumI m := by
  unfold sumI; rw [List.foldl_append, sumI_acc]; rfl
theorem sumI_set : ∀ (l : List Int) (k : Nat) (y : Int), k < l.length → sumI (l.set k y) = sumI l - intsAt l k + y := by
  intro l
  induction l with
  | nil => intro k y h; simp at h
  | cons x l ih =>
    intro k y h
    cases k with
    | zero => rw [List.set_cons_zero, sumI_cons, sumI_cons]; simp [intsAt, List.getD]; omega
    | succ k =>
      have := ih k y (by simpa using h)
      rw [List.set_cons_succ, sumI_cons, sumI_cons, this]
      have e : intsAt (x :: l) (k + 1) = intsAt l k := by simp [intsAt, List.getD]
      rw [e]; omega
theorem sumI_nonneg : ∀ (l : List Int), (∀ k, k < l.length → 0 ≤ intsAt l k) → 0 ≤ sumI l := by
  intro l
  induction l with
  | nil => intro _; simp [sumI]
  | cons x l ih =>
    intro h
    have h1 := h 0 (by simp)
    have h2 := ih (fun k hk => by have := h (k + 1) (by simpa using hk); simpa [intsAt, List.getD] using this)
    have h3 : intsAt (x :: l) 0 = x := rfl
    rw [sumI_cons]; omega
/-- What fits is no more than there is. -/
theorem fits_sum : ∀ (ns left : List Int), (∀ k, k < left.length → 0 ≤ intsAt left k) → fits ns left = true → sumI ns ≤ sumI left := by
  intro ns
  induction ns with
  | nil => intro left h _; simpa [sumI] using sumI_nonneg left h
  | cons n ns ih =>
    intro left h hf
    simp only [fits, List.any_eq_true, List.mem_range, Bool.and_eq_true, decide_eq_true_eq] at hf
    obtain ⟨k, hk, h1, h2⟩ := hf
    have := ih (left.set k (intsAt left k - n)) (fun j hj => by
      rw [List.length_set] at hj
      rw [intsAt_set hk]
      split
      · omega
      · exact h j hj) h2
    rw [sumI_set _ _ _ hk] at this
    rw [sumI_cons]; omega
theorem sum_whole (bar : Int) : ∀ b : Nat, sumI (wholeBars bar b) = b * (bar + 3) := by
  intro b
  induction b with
  | zero => simp [wholeBars, sumI]
  | succ b ih =>
    rw [wholeBars_succ, sumI_append, ih, sumI_cons]
    have : sumI [] = 0 := rfl
    rw [this, show ((b + 1 : Nat) : Int) = (b : Int) + 1 by omega, Int.add_mul]; omega
theorem sum_map3 : ∀ (D : List Int), sumI (D.map (· + 3)) = sumI D + 3 * D.length := by
  intro D
  induction D with
  | nil => rfl
  | cons x l ih =>
    rw [List.map_cons, sumI_cons, sumI_cons, ih]
    simp; omega
theorem few_law {bar : Int} {D : List Int} (hb : 1000 ≤ bar ∧ bar ≤ 6000) (hl : 1 ≤ D.length ∧ D.length ≤ 8) (hD : ∀ i, i < D.length → 1 ≤ intsAt D i) (hD2 : ∀ i, i < D.length → intsAt D i ≤ bar) :
    1 ≤ fewest (D.map (· + 3)) bar ∧ fewest (D.map (· + 3)) bar ≤ (cutSt bar D D.length).2.length ∧ (cutSt bar D D.length).2.length ≤ 8 ∧ sumI D + 3 * D.length ≤ (fewest (D.map (· + 3)) bar : Int) * (bar + 3) := by
  have h1 := (cut_fits hb hD hD2 D.length 0 (by omega)).2
  have h2 := (cutSt_bd hb hD D.length (Nat.le_refl _) hD2).2.1
  have h3 : (cutSt bar D 0).2 = [] := by simp [cutSt]
  rw [h3] at h1
  simp only [List.drop_zero, List.nil_append, List.length_nil, Nat.sub_zero] at h1
  have hpos : 1 ≤ (cutSt bar D D.length).2.length := by
    rcases Nat.eq_zero_or_pos (cutSt bar D D.length).2.length with e | e
    · rw [e] at h1
      have : D.map (· + 3) ≠ [] := by
        intro h
        have := congrArg List.length h
        simp at this
        rw [this] at hl; simp at hl
      cases hm : D.map (· + 3) with
      | nil => exact absurd hm this
      | cons x xs => rw [hm] at h1; simp [fits, wholeBars] at h1
    · exact e
  obtain ⟨g1, g2, g3⟩ := fewGo_law (D := D.map (· + 3)) (bar := bar) 8 1 _ hpos (by omega) h1
  refine ⟨g1, g2, by omega, ?_⟩
  have := fits_sum _ _ (fun k hk => by rw [wholeBars_len] at hk; rw [wholeBars_at hk]; omega) g3
  rw [sum_map3, sum_whole] at this
  exact this
/-! ### A convex triangle has an area -/
theorem tri_law {L : List Tube} (h3 : L.length = 3) (hc : closedT L = true) (hv : (allUp L L.length || allDown L L.length) = true) : areaT L L.length ≠ 0 := by
  match L, h3 with
  | [a, b, c], _ =>
    have h0 : sumX [a, b, c] = 0 ∧ sumY [a, b, c] = 0 := by simpa [closedT] using hc
    have hx : a.x + b.x = - c.x := by have := h0.1; simp [sumX] at this; omega
    have hy : a.y + b.y = - c.y := by have := h0.2; simp [sumY] at this; omega
    have e : areaT [a, b, c] 3 = a.x * b.y - a.y * b.x := by
      simp only [areaT]
      have e0 : sumX ([a, b, c].take 0) = 0 := rfl
      have f0 : sumY ([a, b, c].take 0) = 0 := rfl
      have e1 : sumX ([a, b, c].take 1) = a.x := by simp [sumX]
      have f1 : sumY ([a, b, c].take 1) = a.y := by simp [sumY]
      have e2 : sumX ([a, b, c].take 2) = - c.x := by simp [sumX]; exact hx
      have f2 : sumY ([a, b, c].take 2) = - c.y := by simp [sumY]; exact hy
      have t0 : tubeAt [a, b, c] 0 = a := rfl
      have t1 : tubeAt [a, b, c] 1 = b := rfl
      have t2 : tubeAt [a, b, c] 2 = c := rfl
      rw [e0, f0, e1, f1, e2, f2, t0, t1, t2, Int.neg_mul, Int.neg_mul, Int.mul_comm c.y c.x]
      generalize c.x * c.y = z
      generalize a.x * b.y = p
      generalize a.y * b.x = q
      omega
    have ht : turnT [a, b, c] 0 = a.x * b.y - a.y * b.x := rfl
    have hl : [a, b, c].length = 3 := rfl
    rw [hl, e, ← ht]
    rw [Bool.or_eq_true] at hv
    rcases hv with hv | hv
    · have : 0 < turnT [a, b, c] 0 := by
        have := (List.all_eq_true.1 hv) 0 (by simp)
        simpa using this
      omega
    · have : turnT [a, b, c] 0 < 0 := by
        have := (List.all_eq_true.1 hv) 0 (by simp)
        simpa using this
      omega
end Go.Proofs.Ytmjjlpkleapaeaa
