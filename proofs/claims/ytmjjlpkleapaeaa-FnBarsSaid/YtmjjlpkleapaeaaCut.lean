/- Cutting tubes from bars: the rule, and the walk of CutBars in the program. -/
import Derived.Test.YtmjjlpkleapaeaaLens
namespace Go.Proofs.Ytmjjlpkleapaeaa
open Go.RowKit

theorem apart_new {w : World} {base e size n h : Nat} {xs : List Value} {u v v' : Value} (hu : w.ownsRow base e size u n xs) (hne : u.ownBlock = none ∨ u.ownBlock ≠ v.ownBlock)
    (hor : v'.ownBlock = v.ownBlock ∨ v'.ownBlock = some h) (hh : w.heap.size ≤ h) : u.ownBlock = none ∨ u.ownBlock ≠ v'.ownBlock := by
  rcases hor with e | e
  · rw [e]; exact hne
  · right; rw [e]; intro he; have := (World.ownsRow.lt hu _ he).2; omega

theorem heap_set_new (w : World) (p : Addr) (u : Value) (o : Obj) : ((w.setCell p u).alloc o).heap[w.heap.size]? = some o := by
  have h := heap_alloc_new (w.setCell p u) o
  have e : (w.setCell p u).heap.size = w.heap.size := by simp [World.setCell]
  rw [e] at h; exact h

/-- The first place from the left where t fits; the length if there is none. -/
def fitAt : List Int → Int → Nat
  | [], _ => 0
  | x :: xs, t => if t ≤ x then 0 else fitAt xs t + 1
theorem fitAt_eq : ∀ (l : List Int) (t : Int) (k : Nat), k ≤ l.length → (∀ j, j < k → intsAt l j < t) → (k < l.length → t ≤ intsAt l k) → fitAt l t = k
  | [], t, k, hk, _, _ => by simp at hk; subst hk; rfl
  | x :: xs, t, 0, _, _, h2 => by
    have := h2 (by simp)
    have e : intsAt (x :: xs) 0 = x := rfl
    rw [e] at this
    simp [fitAt, this]
  | x :: xs, t, k + 1, hk, h1, h2 => by
    have h0 := h1 0 (by omega)
    have e : intsAt (x :: xs) 0 = x := rfl
    rw [e] at h0
    have e2 : ∀ j, intsAt (x :: xs) (j + 1) = intsAt xs j := fun j => by simp [intsAt]
    have ih := fitAt_eq xs t k (by simpa using hk) (fun j hj => by rw [← e2]; exact h1 (j + 1) (by omega)) (fun hl => by rw [← e2]; exact h2 (by simpa using hl))
    simp [fitAt, ih, show ¬ t ≤ x by omega]
def cutStep (bar : Int) (st : List Int × List Int) (n : Int) : List Int × List Int :=
  let k := fitAt st.2 (n + 3)
  let l := if k < st.2.length then st.2 else st.2 ++ [bar + 3]
  (st.1 ++ [(k : Int)], l.set k (intsAt l k - (n + 3)))
def cutSt (bar : Int) (D : List Int) (k : Nat) : List Int × List Int := (D.take k).foldl (cutStep bar) ([], [])
theorem cutSt_succ (bar : Int) (D : List Int) {k : Nat} (h : k < D.length) : cutSt bar D (k + 1) = cutStep bar (cutSt bar D k) (intsAt D k) := by
  rw [cutSt, take_snoc D 0 h, List.foldl_append]; rfl
theorem cutStep_old {bar : Int} {o l : List Int} {n : Int} {k : Nat} (hf : fitAt l (n + 3) = k) (hk : k < l.length) : cutStep bar (o, l) n = (o ++ [(k : Int)], l.set k (intsAt l k - (n + 3))) := by
  simp [cutStep, hf, hk]
theorem cutStep_new {bar : Int} {o l : List Int} {n : Int} (hf : fitAt l (n + 3) = l.length) : cutStep bar (o, l) n = (o ++ [(l.length : Int)], (l ++ [bar + 3]).set l.length (bar + 3 - (n + 3))) := by
  have : intsAt (l ++ [bar + 3]) l.length = bar + 3 := by simp [intsAt, List.getD]
  simp [cutStep, hf, this]
theorem fitAt_le : ∀ (l : List Int) (t : Int), fitAt l t ≤ l.length
  | [], _ => Nat.le_refl _
  | x :: xs, t => by have := fitAt_le xs t; simp only [fitAt]; split <;> simp <;> omega
theorem fitAt_ge : ∀ (l : List Int) (t : Int), fitAt l t < l.length → t ≤ intsAt l (fitAt l t)
  | [], _, h => absurd h (by simp [fitAt])
  | x :: xs, t, h => by
    have ih := fitAt_ge xs t
    simp only [fitAt] at h ⊢
    split
    · rename_i hx; exact hx
    · rename_i hx
      rw [if_neg hx] at h
      have e2 : ∀ j, intsAt (x :: xs) (j + 1) = intsAt xs j := fun j => by simp [intsAt]
      rw [e2]; exact ih (by simpa using h)
theorem intsAt_snoc (l : List Int) (x : Int) {j : Nat} (h : j < l.length) : intsAt (l ++ [x]) j = intsAt l j := by simp [intsAt, List.getD, List.getElem?_append_left h]
theorem intsAt_last (l : List Int) (x : Int) : intsAt (l ++ [x]) l.length = x := by simp [intsAt, List.getD]
theorem cutSt_bd {bar : Int} {D : List Int} (hb : 1000 ≤ bar ∧ bar ≤ 6000) (hD : ∀ i, i < D.length → 1 ≤ intsAt D i) : ∀ k, k ≤ D.length → (∀ i, i < k → intsAt D i ≤ bar) →
    (cutSt bar D k).1.length = k ∧ (cutSt bar D k).2.length ≤ k ∧ ∀ j, j < (cutSt bar D k).2.length → 0 ≤ intsAt (cutSt bar D k).2 j ∧ intsAt (cutSt bar D k).2 j ≤ 6003 := by
  intro k
  induction k with
  | zero => intro _ _; exact ⟨by simp [cutSt], by simp [cutSt], fun j hj => by simp [cutSt] at hj⟩
  | succ k ih =>
    intro hk hle
    obtain ⟨h1, h2, h3⟩ := ih (by omega) (fun i hi => hle i (by omega))
    have hn := hD k (by omega)
    have hn2 := hle k (by omega)
    rw [cutSt_succ bar D (by omega)]
    generalize cutSt bar D k = st at h1 h2 h3 ⊢
    obtain ⟨o, l⟩ := st
    simp only at h1 h2 h3
    by_cases hf : fitAt l (intsAt D k + 3) < l.length
    · rw [cutStep_old rfl hf]
      have h4 := fitAt_ge l _ hf
      have h5 := h3 _ hf
      refine ⟨by simp [h1], by simp; omega, fun j hj => ?_⟩
      simp only [List.length_set] at hj
      rw [intsAt_set hf]
      split
      · omega
      · exact h3 j hj
    · have hf' : fitAt l (intsAt D k + 3) = l.length := by have := fitAt_le l (intsAt D k + 3); omega
      rw [cutStep_new hf']
      refine ⟨by simp [h1], by simp; omega, fun j hj => ?_⟩
      simp only [List.length_set, List.length_append, List.length_cons, List.length_nil] at hj
      rw [intsAt_set (by simp)]
      split
      · omega
      · rw [intsAt_snoc l _ (by omega)]; exact h3 j (by omega)
noncomputable def barsCode (L : List Tube) (bar : Int) : Int := if areTubes L = false then 1 else if inR bar 1000 6000 = false then 2 else if (lensN L L.length).all (fun n => decide (n ≤ bar)) = false then 4 else 0
noncomputable def cutF (L : List Tube) (bar : Int) : List Int × Int := if barsCode L bar = 0 then ((cutSt bar (lensN L L.length) L.length).1, 0) else ([], barsCode L bar)
theorem all_le {D : List Int} {bar : Int} (h : ∀ i, i < D.length → intsAt D i ≤ bar) : D.all (fun n => decide (n ≤ bar)) = true := by
  rw [List.all_eq_true]
  intro x hx
  obtain ⟨i, hi, rfl⟩ := List.mem_iff_getElem.1 hx
  have := h i hi
  rw [intsAt_lt hi] at this
  simpa using this
theorem all_gt {D : List Int} {bar : Int} {i : Nat} (hi : i < D.length) (h : ¬ intsAt D i ≤ bar) : D.all (fun n => decide (n ≤ bar)) = false := by
  rw [List.all_eq_false]
  refine ⟨D[i], List.getElem_mem hi, ?_⟩
  rw [intsAt_lt hi] at h
  simpa using h
theorem cutF_len (L : List Tube) (bar : Int) : (cutF L bar).1.length ≤ 4194304 := by
  unfold cutF
  split
  · rename_i h
    have h1 : areTubes L = true := by
      cases h1 : areTubes L
      · simp [barsCode, h1] at h
      · rfl
    have := (areTubes_iff h1).2.1
    have key : ∀ (D : List Int) (st : List Int × List Int), (D.foldl (cutStep bar) st).1.length = st.1.length + D.length := by
      intro D
      induction D with
      | nil => intro st; rfl
      | cons x xs ih => intro st; rw [List.foldl_cons, ih]; simp [cutStep]; omega
    have := key ((lensN L L.length).take L.length) ([], [])
    simp only [cutSt]
    rw [this]; simp [lensN_len]; omega
  · simp

theorem implBar_any (w : World) (bar : Int) : Calls Try.prog 55 #[.int .i64 bar] w fun e w' => e = .returned (.bool (inR bar 1000 6000)) ∧ w' = w := by
  go_enter Try.func55, Try.ntmps55
  go_wp2_with (go_at_call 60; refine (within_any _ _ _ _).mono ?_; rintro e w2 ⟨rfl, rfl⟩)
  go_ret
  exact ⟨rfl, rfl⟩

set_option maxHeartbeats 3200000 in
theorem implCutBars_any (w : World) (L : List Tube) (v : Value) (bar : Int) (hv : Sl w 2 v L.length (tubeRow L)) (_ : tubeFit L) (hn : L.length ≤ 4194304) :
    Calls Try.prog 30 #[v, .int .i64 bar] w (RetSC w.heap.size 2 1 intsRow (cutF L bar) w) := by
  have Hv := Lib.hid hv
  clear hv
  cases h1 : areTubes L
  · have H := Lib.hid (show cutF L bar = ([], 1) by simp [cutF, barsCode, h1])
    go_enter Try.func30, Try.ntmps30
    go_wp2_with fail
    refine (implAreTubes_any w L _ Hv.out hn).mono ?_
    rintro e w2 ⟨rfl, hb2⟩
    rw [h1]
    go_wp2
    go_ret2
    exact RetSC.err H.out rfl hb2
  · have h8 := (areTubes_iff h1).2.1
    cases h2 : inR bar 1000 6000
    · have H := Lib.hid (show cutF L bar = ([], 2) by simp [cutF, barsCode, h1, h2])
      go_enter Try.func30, Try.ntmps30
      go_wp2_with fail
      refine (implAreTubes_any w L _ Hv.out hn).mono ?_
      rintro e w2 ⟨rfl, hb2⟩
      rw [h1]
      go_wp2_with (go_at_call 55; refine (implBar_any _ _).mono ?_; rintro e w3 ⟨rfl, hw3⟩; cases hw3)
      go_ret2
      exact RetSC.err H.out rfl hb2
    · have hbar : 1000 ≤ bar ∧ bar ≤ 6000 := by simpa [inR] using h2
      obtain ⟨i0, hi, hz0, hz1, hz2⟩ := info_parts Try.info_ints
      go_enter Try.func30, Try.ntmps30
      go_wp2_with fail
      refine (implAreTubes_any w L _ Hv.out hn).mono ?_
      rintro e w2 ⟨rfl, hb2⟩
      rw [h1]
      go_wp2_with (go_at_call 55; refine (implBar_any _ _).mono ?_; rintro e w3 ⟨rfl, hw3⟩; cases hw3)
      refine (implLengths_any w2 L _ (Hv.out.below hb2) h1).mono ?_
      rintro e w4 ⟨hlen, y, rfl, ho, hb4⟩
      obtain ⟨Ad, cd, rfl, _, _⟩ := own_slice ho
      have b4 := hb2.trans (hb4.mono hb2.size)
      obtain ⟨D, hD⟩ : ∃ D, D = lensN L L.length := ⟨_, rfl⟩
      have hDl : D.length = L.length := by rw [hD, lensN_len]
      have hDb : ∀ i, i < D.length → 1 ≤ intsAt D i ∧ intsAt D i ≤ 2829 := fun i hi => by
        rw [hD, lensN_at L (by omega)]; exact hlen i (by omega)
      rw [← hD, ← hDl] at ho
      have Hd := Lib.hid (Rd.of_own ho)
      have HD := Lib.hid hD
      have HDb := Lib.hid hDb
      have hD8 : D.length ≤ 8 := by omega
      rw [← hDl]
      have HDl := Lib.hid hDl
      clear ho hlen hb2 hb4 hD hDb hDl
      have hsz4 := b4.size
      go_wp2
      go_loopw [6, 7, 20] (fun s l i wr => ∃ (k : Nat) (Ao Al : Option Addr) (co cl : Nat) (out left : List Int), k ≤ D.length ∧ i = .int .i64 k ∧ (out, left) = cutSt bar D k ∧ (∀ i, i < k → intsAt D i ≤ bar) ∧ s = .slice Ao out.length co ∧ l = .slice Al left.length cl ∧
          wr.ownsRow w4.heap.size 2 1 (.slice Ao out.length co) out.length (intsRow out) ∧ wr.ownsRow w4.heap.size 2 1 (.slice Al left.length cl) left.length (intsRow left) ∧
          ((Value.slice Ao out.length co).ownBlock = none ∨ (Value.slice Ao out.length co).ownBlock ≠ (Value.slice Al left.length cl).ownBlock) ∧ Below w4.heap.size w4 wr) (fun _ _ i _ => D.length - (intOf i).toNat)
      case atStart => exact ⟨0, none, none, 0, 0, [], [], Nat.zero_le _, rfl, rfl, fun i h => absurd h (by omega), rfl, rfl, World.ownsRow_nil _ _ _ _, World.ownsRow_nil _ _ _ _, .inl rfl, Below.refl _ _⟩
      case round =>
        obtain ⟨k, Ao, Al, co, cl, out, left, hk, rfl, hst, hle, rfl, rfl, ho, hl, hne, hb⟩ := hrel
        have hbd := cutSt_bd hbar (fun i hi => (HDb.out i hi).1) k hk hle
        rw [← hst] at hbd
        obtain ⟨hol, hll, hlb⟩ := hbd
        try simp only at hol hll hlb
        rw [hol] at ho hne ⊢
        have Hol := Lib.hid hol
        clear hol
        have Hst := Lib.hid hst
        have Hle := Lib.hid hle
        have Ho := Lib.hid ho
        have Hl := Lib.hid hl
        have Hne := Lib.hid hne
        have Hlb := Lib.hid hlb
        clear hst hle ho hl hne hlb
        have hsz := hb.size
        by_cases hlt : k < D.length
        · obtain ⟨g, o, rfl, hg, c0⟩ := (Hd.out.below hb (Nat.le_refl _)).ints hlt
          have hnb := HDb.out k hlt
          obtain ⟨n, hn'⟩ : ∃ n, n = intsAt D k := ⟨_, rfl⟩
          rw [← hn'] at c0 hnb
          have HN := Lib.hid hn'
          clear hn'
          by_cases hgt : bar < n
          · have H := Lib.hid (show cutF L bar = ([], 4) by
              have : (lensN L L.length).all (fun n => decide (n ≤ bar)) = false := by rw [← HD.out]; exact all_gt hlt (by rw [← HN.out]; omega)
              simp [cutF, barsCode, h1, h2, this])
            go_wp2
            go_ret2
            exact RetSC.err H.out rfl (b4.trans (hb.mono hsz4))
          · go_wp2
            rename World => wo
            go_loop [10] (fun i => ∃ j : Nat, j ≤ left.length ∧ i = .int .i64 j ∧ ∀ a, a < j → intsAt left a < n + 3) (fun i => left.length - (intOf i).toNat)
            case atStart => exact ⟨0, Nat.zero_le _, rfl, fun a h => absurd h (by omega)⟩
            case round =>
              obtain ⟨j, hj, rfl, hall⟩ := hrel
              have Hall := Lib.hid hall
              clear hall
              by_cases hjl : j < left.length
              · obtain ⟨g1, cc, hA1, hgb, hgl⟩ := own_form Hl.out (by omega)
                injection hA1 with hA1 hn1 hc1
                subst hA1
                clear hn1 hc1 cc
                have d0 : wo.cell? ⟨g1, j, none⟩ = some (.int .i64 (intsAt left j)) := (Hl.out.cellAt j (by omega)).trans (intsRow_at left j hjl)
                have f0 := Hl.out.frozenAt j
                have hx := Hlb.out j hjl
                by_cases hx2 : intsAt left j < n + 3
                · go_wp2
                  go_round
                  case rel => exact ⟨j + 1, by omega, by go_num, fun a ha => by
                    by_cases e : a = j
                    · subst e; exact hx2
                    · exact Hall.out a (by omega)⟩
                  case measure => simp [intOf]; omega
                · have hfit : fitAt left (n + 3) = j := fitAt_eq left (n + 3) j hj Hall.out (fun _ => by omega)
                  have E := Lib.hid (show (out ++ [(j : Int)], left.set j (intsAt left j - (n + 3))) = cutSt bar D (k + 1) by
                    rw [cutSt_succ bar D hlt, ← Hst.out, ← HN.out, cutStep_old hfit hjl])
                  clear hfit
                  have t1 : ((j : Int) == (left.length : Int)) = false := by simp; omega
                  have hne1 : (Value.slice Ao k co).ownBlock ≠ some g1 := by
                    rcases Hne.out with h | h
                    · rw [h]; simp
                    · exact h
                  have Hne1 := Lib.hid hne1
                  clear hne1
                  go_wp2_with (at_builtin; refine wpList_append_sl _ rfl (.tmp 59) (.tmp 61) _ rfl w4.heap.size 2 i0 _ 1 8 Try.underlying35 hi hz0 hz1 hz2 rfl (by omega) _ k (intsRow out) rfl ((own_far Ho.out Hne1.out _).alloc _) (some ⟨wo.heap.size, 0, none⟩) 1 1 [.int .i64 (j : Int)] rfl (Rd.of_block (cs := #[.int .i64 (j : Int)]) (heap_set_new wo _ _ _) rfl) (by intro x hx; simp at hx; subst hx; rfl) (by unfold maxLen; omega) (by omega) (by simp [World.setCell]; omega) ?_; intro A9 c9 w9 ho9 hg9 hor9)
                  have Hl2 := Lib.hid (show (wo.setCell ⟨g1, j, none⟩ (.int .i64 (intsAt left j - (n + 3)))).ownsRow w4.heap.size 2 1 (.slice (some ⟨g1, 0, none⟩) left.length cl) left.length (intsRow (left.set j (intsAt left j - (n + 3)))) by rw [← intsRow_set]; exact (Hl.out.stored j _).1)
                  have b9 : Below w4.heap.size w4 w9 := ((hb.setCell (show w4.heap.size ≤ g1 from hgb) _).alloc (by simp [World.setCell]; omega) _).grown hg9 (by simp [World.setCell]; omega) (fun q hq => (World.ownsRow.lt Ho.out q hq).1)
                  have hl9 := (Hl2.out.alloc (.cells #[.int .i64 (j : Int)] 2)).kept hg9 (ne_symm (by rcases Hne.out with h | h; exact .inl h; exact .inr h))
                  have hne9 := ne_symm (apart_new (Hl2.out.alloc (.cells #[.int .i64 (j : Int)] 2)) (ne_symm Hne.out) hor9 (by simp [World.setCell]))
                  have Hl9 := Lib.hid hl9
                  have Ho9 := Lib.hid ho9
                  have Hne9 := Lib.hid hne9
                  clear hl9 ho9 hne9 hg9 hor9
                  go_roundw
                  case rel =>
                    refine ⟨k + 1, A9, some ⟨g1, 0, none⟩, c9, cl, out ++ [(j : Int)], left.set j (intsAt left j - (n + 3)), by omega, by go_num, E.out, fun i hi => ?_, ?_, ?_, ?_, ?_, ?_, b9⟩
                    · by_cases e : i = k
                      · subst e; rw [← HN.out]; omega
                      · exact Hle.out i (by omega)
                    · rw [List.length_append, Hol.out]; rfl
                    · rw [List.length_set]
                    · rw [List.length_append, Hol.out, intsRow_append]; exact Ho9.out
                    · rw [List.length_set]; exact Hl9.out
                    · rw [List.length_append, Hol.out, List.length_set]; exact Hne9.out
                  case measure => simp [intOf]; omega
              · have hjl' : j = left.length := by omega
                subst hjl'
                have hfit : fitAt left (n + 3) = left.length := fitAt_eq left (n + 3) left.length (Nat.le_refl _) Hall.out (fun h => absurd h (by omega))
                have E := Lib.hid (show (out ++ [(left.length : Int)], (left ++ [bar + 3]).set left.length (bar + 3 - (n + 3))) = cutSt bar D (k + 1) by
                  rw [cutSt_succ bar D hlt, ← Hst.out, ← HN.out, cutStep_new hfit])
                clear hfit
                have t1 : ((left.length : Int) == (left.length : Int)) = true := by simp
                go_wp2_with (first
                  | (at_builtin; refine wpList_append_sl _ rfl (.tmp 46) (.tmp 49) _ rfl w4.heap.size 2 i0 _ 1 8 Try.underlying35 hi hz0 hz1 hz2 rfl (by omega) _ left.length (intsRow left) rfl (Hl.out.alloc _) (some ⟨wo.heap.size, 0, none⟩) 1 1 [.int .i64 (bar + 3)] rfl (Rd.of_block (cs := #[.int .i64 (bar + 3)]) (heap_alloc_new _ _) rfl) (by intro x hx; simp at hx; subst hx; rfl) (by unfold maxLen; omega) (by omega) (by simp; omega) ?_; intro A8 c8 w8 ho8 hg8 hor8; have b8 : Below w4.heap.size w4 w8 := (hb.alloc hsz _).grown hg8 (by simp; omega) (fun q hq => (World.ownsRow.lt Hl.out q hq).1); have Ho8o := Lib.hid ((Ho.out.alloc (.cells #[.int .i64 (bar + 3)] 2)).kept hg8 Hne.out); have hne8 := apart_new (Ho.out.alloc (.cells #[.int .i64 (bar + 3)] 2)) Hne.out hor8 (Nat.le_refl _); have Hne8 := Lib.hid hne8; have hq8 := own_form ho8 (by omega); have Ho8 := Lib.hid ho8; have s8 := b8.size; clear ho8 hg8 hor8 hne8; obtain ⟨g1, cc, hA1, hgb, hgl⟩ := hq8; injection hA1 with hA1 hn1 hc1; subst hA1; clear hn1 hc1 cc; have d8 : w8.cell? ⟨g1, left.length, none⟩ = some (.int .i64 (bar + 3)) := (Ho8.out.cellAt left.length (by omega)).trans (by simp [intsRow]); have f8 := Ho8.out.frozenAt left.length)
                  | (at_builtin; refine wpList_append_sl _ rfl (.tmp 59) (.tmp 61) _ rfl w4.heap.size 2 i0 _ 1 8 Try.underlying35 hi hz0 hz1 hz2 rfl (by omega) _ k (intsRow out) rfl ((own_far Ho8o.out (by rcases Hne8.out with h | h; (rw [h]; simp); exact h) _).alloc _) (some ⟨w8.heap.size, 0, none⟩) 1 1 [.int .i64 (left.length : Int)] rfl (Rd.of_block (cs := #[.int .i64 (left.length : Int)]) (heap_set_new w8 _ _ _) rfl) (by intro x hx; simp at hx; subst hx; rfl) (by unfold maxLen; omega) (by omega) (by simp [World.setCell]; omega) ?_; intro A9 c9 w9 ho9 hg9 hor9))
                have Hl2 := Lib.hid (show (w8.setCell ⟨g1, left.length, none⟩ (.int .i64 (bar + 3 - (n + 3)))).ownsRow w4.heap.size 2 1 (.slice (some ⟨g1, 0, none⟩) (left.length + 1) c8) (left.length + 1) (intsRow ((left ++ [bar + 3]).set left.length (bar + 3 - (n + 3)))) by rw [← intsRow_set, intsRow_append]; exact (Ho8.out.stored left.length _).1)
                have b9 : Below w4.heap.size w4 w9 := ((b8.setCell (show w4.heap.size ≤ g1 from hgb) _).alloc (by simp [World.setCell]; omega) _).grown hg9 (by simp [World.setCell]; omega) (fun q hq => (World.ownsRow.lt Ho8o.out q hq).1)
                have hl9 := (Hl2.out.alloc (.cells #[.int .i64 (left.length : Int)] 2)).kept hg9 (ne_symm (by rcases Hne8.out with h | h; exact .inl h; exact .inr h))
                have hne9 := ne_symm (apart_new (Hl2.out.alloc (.cells #[.int .i64 (left.length : Int)] 2)) (ne_symm Hne8.out) hor9 (by simp [World.setCell]))
                have Hl9 := Lib.hid hl9
                have Ho9 := Lib.hid ho9
                have Hne9 := Lib.hid hne9
                clear hl9 ho9 hne9 hg9 hor9 d8 f8
                go_roundw
                case rel =>
                  refine ⟨k + 1, A9, some ⟨g1, 0, none⟩, c9, c8, out ++ [(left.length : Int)], (left ++ [bar + 3]).set left.length (bar + 3 - (n + 3)), by omega, by go_num, E.out, fun i hi => ?_, ?_, ?_, ?_, ?_, ?_, b9⟩
                  · by_cases e : i = k
                    · subst e; rw [← HN.out]; omega
                    · exact Hle.out i (by omega)
                  · rw [List.length_append, Hol.out]; rfl
                  · rw [List.length_set, List.length_append]; rfl
                  · rw [List.length_append, Hol.out, intsRow_append]; exact Ho9.out
                  · rw [List.length_set, List.length_append]; exact Hl9.out
                  · rw [List.length_append, Hol.out, List.length_set, List.length_append]; exact Hne9.out
                case measure => simp [intOf]; omega
        · have hkD : k = D.length := by omega
          have H := Lib.hid (show cutF L bar = (out, 0) by
            have h4 : (lensN L L.length).all (fun n => decide (n ≤ bar)) = true := by rw [← HD.out]; exact all_le (fun i hi => Hle.out i (by omega))
            have h5 : (cutSt bar (lensN L L.length) L.length).1 = out := by rw [← HD.out, ← HDl.out, ← hkD, ← Hst.out]
            simp [cutF, barsCode, h1, h2, h4, h5])
          go_wp2
          go_ret2
          exact RetSC.ok H.out Ho.out Hol.out.symm rfl hsz4 (b4.trans (hb.mono hsz4))

end Go.Proofs.Ytmjjlpkleapaeaa
