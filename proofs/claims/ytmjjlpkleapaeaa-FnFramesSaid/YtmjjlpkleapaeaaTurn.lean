/- TurnTubes: the rule; its walk in the program and in the reference. Printed by gen_turn.py. -/
import Derived.Test.YtmjjlpkleapaeaaTubes2
import Derived.Test.YtmjjlpkleapaeaaApp
import Derived.Deep.RegionHeld3
namespace Go.Proofs.Ytmjjlpkleapaeaa
open Go.RowKit

def turnT (t : Tube) : Tube := ⟨-t.y, t.x⟩
def turnK : Nat → List Tube → List Tube
  | 0, L => L
  | k + 1, L => turnK k (L.map turnT)
theorem turnK_len : ∀ (k : Nat) (L : List Tube), (turnK k L).length = L.length
  | 0, _ => rfl
  | k + 1, L => by rw [turnK, turnK_len k, List.length_map]
def turnF (L : List Tube) (q : Int) : List Tube × Int := if areTubes L = true then (if inR q 0 3 = true then (turnK q.toNat L, 0) else ([], 2)) else ([], 1)
theorem turn_bad {L : List Tube} {q : Int} (h : areTubes L = false) : turnF L q = ([], 1) := by simp [turnF, h]
theorem turn_range {L : List Tube} {q : Int} (h : areTubes L = true) (h2 : inR q 0 3 = false) : turnF L q = ([], 2) := by simp [turnF, h, h2]
theorem turn_ok {L : List Tube} {q : Nat} (h : areTubes L = true) (h2 : inR (q : Int) 0 3 = true) : turnF L q = (turnK q L, 0) := by simp [turnF, h, h2]
theorem turnF_len (L : List Tube) (q : Int) : (turnF L q).1.length ≤ 4194304 := by
  unfold turnF
  split
  · rename_i h
    have := (areTubes_iff h).2.1
    split
    · show (turnK _ L).length ≤ _; rw [turnK_len]; omega
    · simp
  · simp
/-- Within the numbers' range. -/
def Near (M : List Tube) : Prop := ∀ i, i < M.length → (-2000 ≤ (tubeAt M i).x ∧ (tubeAt M i).x ≤ 2000) ∧ (-2000 ≤ (tubeAt M i).y ∧ (tubeAt M i).y ≤ 2000)
theorem map_at (M : List Tube) {i : Nat} (h : i < M.length) : tubeAt (M.map turnT) i = turnT (tubeAt M i) := by
  rw [tubeAt_lt (by simpa using h), tubeAt_lt h]; simp
theorem Near.turn {M : List Tube} (h : Near M) : Near (M.map turnT) := by
  intro i hi
  rw [List.length_map] at hi
  rw [map_at M hi]
  have := h i hi
  simp only [turnT]
  omega
theorem near_of {L : List Tube} (h : areTubes L = true) : Near L := by
  intro i hi
  have := areTubes_at h hi
  omega
theorem tubeAt_set {M : List Tube} {i j : Nat} {t : Tube} (h : i < M.length) : tubeAt (M.set i t) j = if j = i then t else tubeAt M j := by
  by_cases e : j = i
  · subst e; simp [tubeAt, List.getD, h]
  · simp [tubeAt, List.getD, List.getElem?_set_ne (Ne.symm e), e]
theorem tubeRow_set (M : List Tube) (t : Tube) : ∀ i, ((tubeRow M).set (i * 2) (.int .i64 t.x)).set (i * 2 + 1) (.int .i64 t.y) = tubeRow (M.set i t) := by
  induction M with
  | nil => intro i; simp [tubeRow]
  | cons a l ih =>
    intro i
    cases i with
    | zero => rfl
    | succ i =>
      rw [List.set_cons_succ, tubeRow_cons, tubeRow_cons, ← ih i, show (i + 1) * 2 = i * 2 + 2 by omega]
      rfl
/-- The first i of M are turned. -/
def Half (M M' : List Tube) (i : Nat) : Prop := M'.length = M.length ∧ (∀ j, j < i → tubeAt M' j = turnT (tubeAt M j)) ∧ ∀ j, i ≤ j → j < M.length → tubeAt M' j = tubeAt M j
theorem Half.zero (M : List Tube) : Half M M 0 := ⟨rfl, fun j h => absurd h (by omega), fun _ _ _ => rfl⟩
theorem Half.step {M M' : List Tube} {i : Nat} (h : Half M M' i) (hi : i < M.length) : Half M (M'.set i (turnT (tubeAt M i))) (i + 1) := by
  obtain ⟨h1, h2, h3⟩ := h
  refine ⟨by simpa using h1, fun j hj => ?_, fun j hj hl => ?_⟩
  · rw [tubeAt_set (by omega)]
    split
    · rename_i e; rw [e]
    · exact h2 j (by omega)
  · rw [tubeAt_set (by omega), if_neg (by omega)]; exact h3 j (by omega) hl
theorem Half.all {M M' : List Tube} (h : Half M M' M.length) : M' = M.map turnT := by
  obtain ⟨h1, h2, _⟩ := h
  refine tubeRow_inj (by simpa using h1) (fun i hi => ?_)
  rw [h2 i (by omega), map_at M (by omega)]

set_option maxHeartbeats 8000000 in
theorem implTurnTubes_any (w : World) (L : List Tube) (v : Value) (q : Int) (hv : Sl w 2 v L.length (tubeRow L)) (_ : tubeFit L) (hn : L.length ≤ 4194304) :
    Calls Try.prog 33 #[v, .int .i64 q] w (RetSC w.heap.size 54 2 tubeRow (turnF L q) w) := by
  have Hv := Lib.hid hv
  clear hv
  cases h1 : areTubes L
  · have H := Lib.hid (turn_bad (q := q) h1)
    go_enter Try.func33, Try.ntmps33
    go_wp2_with fail
    refine (implAreTubes_any w L _ Hv.out hn).mono ?_
    rintro e w2 ⟨rfl, hb2⟩
    rw [h1]
    go_wp2
    go_ret2
    exact RetSC.err H.out rfl hb2
  · have h8 := (areTubes_iff h1).2.1
    cases h2 : inR q 0 3
    · have H := Lib.hid (turn_range h1 h2)
      go_enter Try.func33, Try.ntmps33
      go_wp2_with fail
      refine (implAreTubes_any w L _ Hv.out hn).mono ?_
      rintro e w2 ⟨rfl, hb2⟩
      rw [h1]
      go_wp2_with fail
      refine (within_any _ _ _ _).mono ?_
      rintro e w3 ⟨rfl, rfl⟩
      rw [h2]
      go_wp2
      go_ret2
      exact RetSC.err H.out rfl hb2
    · have hq : 0 ≤ q ∧ q ≤ 3 := by simpa [inR] using h2
      obtain ⟨Q, rfl⟩ := Int.eq_ofNat_of_zero_le hq.1
      have hQ : Q ≤ 3 := by omega
      have H := Lib.hid (turn_ok h1 h2)
      have HN := Lib.hid (near_of h1)
      obtain ⟨i0, hi, hz0, hz1, hz2⟩ := info_parts Try.infoTube
      obtain ⟨A, c, rfl, _, _, _⟩ := Hv.out
      clear hq
      go_enter Try.func33, Try.ntmps33
      go_wp2_with fail
      refine (implAreTubes_any w L _ Hv.out hn).mono ?_
      rintro e w2 ⟨rfl, hb2⟩
      rw [h1]
      go_wp2_with fail
      refine (within_any _ _ _ _).mono ?_
      rintro e w3 ⟨rfl, rfl⟩
      rw [h2]
      have hsz2 := hb2.size
      obtain ⟨_, _, hve, _, _, hr⟩ := Hv.out.below hb2
      injection hve with e1 _ e3
      subst e1
      subst e3
      have Hr := Lib.hid hr
      clear hr
      go_wp2_with (at_builtin; refine wpList_append_sl _ rfl (.tmp 15) (.tmp 16) _ rfl w2.heap.size 54 i0 _ 2 16 Try.underlying26 hi hz0 hz1 hz2 rfl (by omega) (.slice (some ⟨w2.heap.size, 0, none⟩) 0 0) 0 [] rfl (own_empty _ _ _ (Nat.le_refl _)) A L.length c (tubeRow L) rfl (Hr.out.alloc' _) (tubeRow_one L) (by unfold maxLen; omega) (by omega) (by simp) ?_; intro A9 c9 w9 ho9 hg9 hor9; simp only [Nat.zero_add, List.nil_append] at ho9 ⊢; have q9 : Below w2.heap.size w2 w9 := ((Below.refl _ _).alloc (Nat.le_refl _) _).grown hg9 (by simp) (fun k hk => by simp [Value.ownBlock] at hk; omega))
      have Ho9 := Lib.hid ho9
      have Hq9 := Lib.hid q9
      clear ho9 hg9 hor9 q9
      try go_wp2
      go_loopw [1] (fun qv wr => ∃ (k : Nat) (M : List Tube), k ≤ 3 ∧ qv = .int .i64 k ∧ M.length = L.length ∧ Near M ∧ turnK k M = turnK Q L ∧ wr.ownsRow w2.heap.size 54 2 (.slice A9 L.length c9) L.length (tubeRow M) ∧ Below w2.heap.size w2 wr) (fun qv _ => (intOf qv).toNat)
      case atStart => exact ⟨Q, L, hQ, rfl, rfl, HN.out, rfl, Ho9.out, Hq9.out⟩
      case round =>
        obtain ⟨k, M, hk3, rfl, hM, hnear, hturn, ho, hb⟩ := hrel
        have HM := Lib.hid hM
        have Hnear := Lib.hid hnear
        have Hturn := Lib.hid hturn
        have Ho := Lib.hid ho
        have Hb := Lib.hid hb
        have hsz := hb.size
        clear hM hnear hturn ho hb
        by_cases hk : 0 < k
        · obtain ⟨k', hk'⟩ : ∃ k', k = k' + 1 := ⟨k - 1, by omega⟩
          have Hk' := Lib.hid hk'
          clear hk'
          go_wp2
          go_loopw [24] (fun i wr => ∃ (j : Nat) (M' : List Tube), j ≤ L.length ∧ i = .int .i64 j ∧ Half M M' j ∧ wr.ownsRow w2.heap.size 54 2 (.slice A9 L.length c9) L.length (tubeRow M') ∧ Below w2.heap.size w2 wr) (fun i _ => L.length - (intOf i).toNat)
          case atStart => exact ⟨0, M, Nat.zero_le _, rfl, Half.zero M, Ho.out, Hb.out⟩
          case round =>
            rename World => wx
            obtain ⟨j, M', hj, rfl, hhalf, ho', hb'⟩ := hrel
            have Hhalf := Lib.hid hhalf
            have Ho' := Lib.hid ho'
            have hszx := hb'.size
            clear hhalf ho'
            by_cases hjl : j < L.length
            · obtain ⟨g, cg, hgv, hg1, hg2⟩ := own_form Ho'.out (by omega)
              injection hgv with hgv hgn hgc
              subst hgv
              clear hgn hgc
              have hml : M'.length = L.length := by rw [Hhalf.out.1, HM.out]
              obtain ⟨r0, r1⟩ := tubeRow_at M' j (by omega)
              have hat : tubeAt M' j = tubeAt M j := Hhalf.out.2.2 j (Nat.le_refl _) (by rw [HM.out]; exact hjl)
              rw [hat] at r0 r1
              have d0 := (Ho'.out.cellAt (j * 2) (by omega)).trans r0
              have d1 := (Ho'.out.cellAt (j * 2 + 1) (by omega)).trans r1
              have f0 := Ho'.out.frozenAt (j * 2)
              have f1 := Ho'.out.frozenAt (j * 2 + 1)
              obtain ⟨n1, n2⟩ := Hnear.out j (by rw [HM.out]; exact hjl)
              obtain ⟨tx, htx⟩ : ∃ tx, tx = (tubeAt M j).x := ⟨_, rfl⟩
              obtain ⟨ty, hty⟩ : ∃ ty, ty = (tubeAt M j).y := ⟨_, rfl⟩
              rw [← htx] at d0 n1
              rw [← hty] at d1 n2
              have HS := Lib.hid (Hhalf.out.step (by rw [HM.out]; exact hjl))
              have HX := Lib.hid (show turnT (tubeAt M j) = ⟨-ty, tx⟩ by rw [turnT, ← htx, ← hty])
              have xn := IntWalk.i64_in (-ty) (by omega)
              have xw : wrap64 (-ty) = -ty := IntWalk.wrap64_in _ ⟨by omega, by omega⟩
              have i0' : (0 : Int) ≤ (j : Int) := Int.natCast_nonneg _
              have i1 : (j : Int) < (L.length : Int) := by omega
              clear r0 r1 hat htx hty hml
              go_wp2
              have HC := Lib.hid (show (((wx.setCell ⟨g, j * 2, none⟩ (.int .i64 (-ty))).setCell ⟨g, j * 2 + 1, none⟩ (.int .i64 tx)).alloc (.cells #[.int .i64 tx, .int .i64 ty] 54)).ownsRow w2.heap.size 54 2 (.slice (some ⟨g, 0, none⟩) L.length c9) L.length (tubeRow (M'.set j (turnT (tubeAt M j)))) by
                rw [HX.out, ← tubeRow_set]
                exact (((Ho'.out.stored (j * 2) _).1.stored (j * 2 + 1) _).1.alloc _))
              have hbq : Below w2.heap.size w2 (((wx.setCell ⟨g, j * 2, none⟩ (.int .i64 (-ty))).setCell ⟨g, j * 2 + 1, none⟩ (.int .i64 tx)).alloc (.cells #[.int .i64 tx, .int .i64 ty] 54)) := ((hb'.setCell hg1 _).setCell hg1 _).alloc (by simp [World.setCell]; omega) _
              clear d0 d1 f0 f1
              try go_wp2
              go_roundw
              case rel => exact ⟨j + 1, _, by omega, by go_num, HS.out, HC.out, hbq⟩
              case measure => simp [intOf]; omega
            · have hje : j = L.length := by omega
              have HJ := Lib.hid (show M' = M.map turnT from (by have h0 := Hhalf.out; rw [hje, ← HM.out] at h0; exact h0.all))
              clear hje
              go_wp2
              go_roundw
              case rel => exact ⟨k', M.map turnT, by have := Hk'.out; omega, by (have := Hk'.out; subst this; go_num), by rw [List.length_map]; exact HM.out, Hnear.out.turn, by (have h0 := Hturn.out; rw [Hk'.out, turnK] at h0; exact h0), by rw [← HJ.out]; exact Ho'.out, hb'⟩
              case measure => simp [intOf]; omega
        · have hk0 : k = 0 := by omega
          have HT := Lib.hid (show turnK Q L = M by rw [← Hturn.out, hk0]; rfl)
          clear hk0
          go_wp2
          go_ret2
          exact RetSC.ok H.out Ho.out (by rw [turnK_len]) (by rw [HT.out]) hsz2 (hb2.trans (Hb.out.mono hsz2))

set_option maxHeartbeats 8000000 in
theorem specTurnTubes_any (w : World) (L : List Tube) (v : Value) (q : Int) (hv : Sl w 2 v L.length (tubeRow L)) (_ : tubeFit L) (hn : L.length ≤ 4194304) :
    Calls Try.prog 34 #[v, .int .i64 q] w (RetSC w.heap.size 54 2 tubeRow (turnF L q) w) := by
  have Hv := Lib.hid hv
  clear hv
  cases h1 : areTubes L
  · have H := Lib.hid (turn_bad (q := q) h1)
    go_enter Try.func34, Try.ntmps34
    go_wp2_with fail
    refine (specAreTubes_any w L _ Hv.out hn).mono ?_
    rintro e w2 ⟨rfl, hb2⟩
    have hb2 : Below w.heap.size w w2 := hb2 ▸ Below.refl _ _
    rw [h1]
    go_wp2
    go_ret2
    exact RetSC.err H.out rfl hb2
  · have h8 := (areTubes_iff h1).2.1
    cases h2 : inR q 0 3
    · have H := Lib.hid (turn_range h1 h2)
      go_enter Try.func34, Try.ntmps34
      go_wp2_with fail
      refine (specAreTubes_any w L _ Hv.out hn).mono ?_
      rintro e w2 ⟨rfl, hb2⟩
      have hb2 : Below w.heap.size w w2 := hb2 ▸ Below.refl _ _
      rw [h1]
      go_wp2_with fail
      refine (l01In_any _ _ _ _).mono ?_
      rintro e w3 ⟨rfl, rfl⟩
      rw [h2]
      go_wp2
      go_ret2
      exact RetSC.err H.out rfl hb2
    · have hq : 0 ≤ q ∧ q ≤ 3 := by simpa [inR] using h2
      obtain ⟨Q, rfl⟩ := Int.eq_ofNat_of_zero_le hq.1
      have hQ : Q ≤ 3 := by omega
      have H := Lib.hid (turn_ok h1 h2)
      have HN := Lib.hid (near_of h1)
      obtain ⟨i0, hi, hz0, hz1, hz2⟩ := info_parts Try.infoTube
      obtain ⟨A, c, rfl, _, _, _⟩ := Hv.out
      clear hq
      go_enter Try.func34, Try.ntmps34
      go_wp2_with fail
      refine (specAreTubes_any w L _ Hv.out hn).mono ?_
      rintro e w2 ⟨rfl, hb2⟩
      have hb2 : Below w.heap.size w w2 := hb2 ▸ Below.refl _ _
      rw [h1]
      go_wp2_with fail
      refine (l01In_any _ _ _ _).mono ?_
      rintro e w3 ⟨rfl, rfl⟩
      rw [h2]
      have hsz2 := hb2.size
      obtain ⟨_, _, hve, _, _, hr⟩ := Hv.out.below hb2
      injection hve with e1 _ e3
      subst e1
      subst e3
      have Hr := Lib.hid hr
      clear hr
      go_wp2_with (at_builtin; refine wpList_append_sl _ rfl (.tmp 14) (.tmp 15) _ rfl w2.heap.size 54 i0 _ 2 16 Try.underlying26 hi hz0 hz1 hz2 rfl (by omega) (.slice (some ⟨w2.heap.size, 0, none⟩) 0 0) 0 [] rfl (own_empty _ _ _ (Nat.le_refl _)) A L.length c (tubeRow L) rfl (Hr.out.alloc' _) (tubeRow_one L) (by unfold maxLen; omega) (by omega) (by simp) ?_; intro A9 c9 w9 ho9 hg9 hor9; simp only [Nat.zero_add, List.nil_append] at ho9 ⊢; have q9 : Below w2.heap.size w2 w9 := ((Below.refl _ _).alloc (Nat.le_refl _) _).grown hg9 (by simp) (fun k hk => by simp [Value.ownBlock] at hk; omega))
      have Ho9 := Lib.hid ho9
      have Hq9 := Lib.hid q9
      clear ho9 hg9 hor9 q9
      try go_wp2
      go_loopw [1] (fun qv wr => ∃ (k : Nat) (M : List Tube), k ≤ 3 ∧ qv = .int .i64 k ∧ M.length = L.length ∧ Near M ∧ turnK k M = turnK Q L ∧ wr.ownsRow w2.heap.size 54 2 (.slice A9 L.length c9) L.length (tubeRow M) ∧ Below w2.heap.size w2 wr) (fun qv _ => (intOf qv).toNat)
      case atStart => exact ⟨Q, L, hQ, rfl, rfl, HN.out, rfl, Ho9.out, Hq9.out⟩
      case round =>
        obtain ⟨k, M, hk3, rfl, hM, hnear, hturn, ho, hb⟩ := hrel
        have HM := Lib.hid hM
        have Hnear := Lib.hid hnear
        have Hturn := Lib.hid hturn
        have Ho := Lib.hid ho
        have Hb := Lib.hid hb
        have hsz := hb.size
        clear hM hnear hturn ho hb
        by_cases hk : 0 < k
        · obtain ⟨k', hk'⟩ : ∃ k', k = k' + 1 := ⟨k - 1, by omega⟩
          have Hk' := Lib.hid hk'
          clear hk'
          go_wp2
          go_loopw [7] (fun i wr => ∃ (j : Nat) (M' : List Tube), j ≤ L.length ∧ i = .int .i64 j ∧ Half M M' j ∧ wr.ownsRow w2.heap.size 54 2 (.slice A9 L.length c9) L.length (tubeRow M') ∧ Below w2.heap.size w2 wr) (fun i _ => L.length - (intOf i).toNat)
          case atStart => exact ⟨0, M, Nat.zero_le _, rfl, Half.zero M, Ho.out, Hb.out⟩
          case round =>
            rename World => wx
            obtain ⟨j, M', hj, rfl, hhalf, ho', hb'⟩ := hrel
            have Hhalf := Lib.hid hhalf
            have Ho' := Lib.hid ho'
            have hszx := hb'.size
            clear hhalf ho'
            by_cases hjl : j < L.length
            · obtain ⟨g, cg, hgv, hg1, hg2⟩ := own_form Ho'.out (by omega)
              injection hgv with hgv hgn hgc
              subst hgv
              clear hgn hgc
              have hml : M'.length = L.length := by rw [Hhalf.out.1, HM.out]
              obtain ⟨r0, r1⟩ := tubeRow_at M' j (by omega)
              have hat : tubeAt M' j = tubeAt M j := Hhalf.out.2.2 j (Nat.le_refl _) (by rw [HM.out]; exact hjl)
              rw [hat] at r0 r1
              have d0 := (Ho'.out.cellAt (j * 2) (by omega)).trans r0
              have d1 := (Ho'.out.cellAt (j * 2 + 1) (by omega)).trans r1
              have f0 := Ho'.out.frozenAt (j * 2)
              have f1 := Ho'.out.frozenAt (j * 2 + 1)
              obtain ⟨n1, n2⟩ := Hnear.out j (by rw [HM.out]; exact hjl)
              obtain ⟨tx, htx⟩ : ∃ tx, tx = (tubeAt M j).x := ⟨_, rfl⟩
              obtain ⟨ty, hty⟩ : ∃ ty, ty = (tubeAt M j).y := ⟨_, rfl⟩
              rw [← htx] at d0 n1
              rw [← hty] at d1 n2
              have HS := Lib.hid (Hhalf.out.step (by rw [HM.out]; exact hjl))
              have HX := Lib.hid (show turnT (tubeAt M j) = ⟨-ty, tx⟩ by rw [turnT, ← htx, ← hty])
              have xn := IntWalk.i64_in (-ty) (by omega)
              have xw : wrap64 (-ty) = -ty := IntWalk.wrap64_in _ ⟨by omega, by omega⟩
              have i0' : (0 : Int) ≤ (j : Int) := Int.natCast_nonneg _
              have i1 : (j : Int) < (L.length : Int) := by omega
              clear r0 r1 hat htx hty hml
              go_wp2
              refine wp_region_held_drew (S := (fun _ => True)) (by kernel_rfl) ?_ (fun hHeld => ?_)
              · (try dsimp only); all_goals trivial
              refine wpAnyH_take (i := 0) (v := ?_) rfl (by kernel_rfl) (by kernel_rfl) (by kernel_rfl) (fun _ _ _ h => h) (Or.inl ⟨by rfl, ?_⟩) (by assumption) ?_
              rotate_left
              · (intro w hSw; (try dsimp only at hSw); go_simp) <;> with_reducible rfl
              try simp only [Act.put, List.setIfInBounds_toArray, List.set_cons_zero, List.set_cons_succ, List.getElem_toArray, List.getElem_cons_succ, List.getElem_cons_zero]
              refine wpAnyH_take (i := 1) (v := ?_) rfl (by kernel_rfl) (by kernel_rfl) (by kernel_rfl) (fun _ _ _ h => h) (Or.inl ⟨by rfl, ?_⟩) (by assumption) ?_
              rotate_left
              · (intro w hSw; (try dsimp only at hSw); go_simp) <;> with_reducible rfl
              try simp only [Act.put, List.setIfInBounds_toArray, List.set_cons_zero, List.set_cons_succ, List.getElem_toArray, List.getElem_cons_succ, List.getElem_cons_zero]
              refine wpAnyH_take (i := 2) (v := ?_) rfl (by kernel_rfl) (by kernel_rfl) (by kernel_rfl) (fun _ _ _ h => h) (Or.inl ⟨by rfl, ?_⟩) (by assumption) ?_
              rotate_left
              · (intro w hSw; (try dsimp only at hSw); go_simp) <;> with_reducible rfl
              try simp only [Act.put, List.setIfInBounds_toArray, List.set_cons_zero, List.set_cons_succ, List.getElem_toArray, List.getElem_cons_succ, List.getElem_cons_zero]
              refine wpAnyH_take (i := 3) (v := ?_) rfl (by kernel_rfl) (by kernel_rfl) (by kernel_rfl) (fun _ _ _ h => h) (Or.inl ⟨by rfl, ?_⟩) (by assumption) ?_
              rotate_left
              · (intro w hSw; (try dsimp only at hSw); go_simp) <;> with_reducible rfl
              try simp only [Act.put, List.setIfInBounds_toArray, List.set_cons_zero, List.set_cons_succ, List.getElem_toArray, List.getElem_cons_succ, List.getElem_cons_zero]
              refine wpAnyH_take (i := 4) (v := ?_) rfl (by kernel_rfl) (by kernel_rfl) (by kernel_rfl) (fun _ _ _ h => h) (Or.inl ⟨by rfl, ?_⟩) (by assumption) ?_
              rotate_left
              · (intro w hSw; (try dsimp only at hSw); go_simp) <;> with_reducible rfl
              try simp only [Act.put, List.setIfInBounds_toArray, List.set_cons_zero, List.set_cons_succ, List.getElem_toArray, List.getElem_cons_succ, List.getElem_cons_zero]
              refine wpAnyH_take (i := 5) (v := ?_) rfl (by kernel_rfl) (by kernel_rfl) (by kernel_rfl) (fun _ _ _ h => h) (Or.inl ⟨by rfl, ?_⟩) (by assumption) ?_
              rotate_left
              · (intro w hSw; (try dsimp only at hSw); go_simp) <;> with_reducible rfl
              try simp only [Act.put, List.setIfInBounds_toArray, List.set_cons_zero, List.set_cons_succ, List.getElem_toArray, List.getElem_cons_succ, List.getElem_cons_zero]
              refine wpAnyH_take (i := 8) (v := ?_) rfl (by kernel_rfl) (by kernel_rfl) (by kernel_rfl) (fun _ _ _ h => h) (Or.inl ⟨by rfl, ?_⟩) (by assumption) ?_
              rotate_left
              · (intro w hSw; (try dsimp only at hSw); go_simp) <;> with_reducible rfl
              try simp only [Act.put, List.setIfInBounds_toArray, List.set_cons_zero, List.set_cons_succ, List.getElem_toArray, List.getElem_cons_succ, List.getElem_cons_zero]
              refine wpAnyH_take (i := 9) (v := ?_) rfl (by kernel_rfl) (by kernel_rfl) (by kernel_rfl) (fun _ _ _ h => h) (Or.inl ⟨by rfl, ?_⟩) (by assumption) ?_
              rotate_left
              · (intro w hSw; (try dsimp only at hSw); go_simp) <;> with_reducible rfl
              try simp only [Act.put, List.setIfInBounds_toArray, List.set_cons_zero, List.set_cons_succ, List.getElem_toArray, List.getElem_cons_succ, List.getElem_cons_zero]
              refine wpAnyH_take (i := 10) (v := ?_) rfl (by kernel_rfl) (by kernel_rfl) (by kernel_rfl) (fun _ _ _ h => h) (Or.inl ⟨by rfl, ?_⟩) (by assumption) ?_
              rotate_left
              · (intro w hSw; (try dsimp only at hSw); go_simp) <;> with_reducible rfl
              try simp only [Act.put, List.setIfInBounds_toArray, List.set_cons_zero, List.set_cons_succ, List.getElem_toArray, List.getElem_cons_succ, List.getElem_cons_zero]
              refine wpAnyH_take (i := 11) (v := ?_) rfl (by kernel_rfl) (by kernel_rfl) (by kernel_rfl) (fun _ _ _ h => h) (Or.inl ⟨by rfl, ?_⟩) (by assumption) ?_
              rotate_left
              · (intro w hSw; (try dsimp only at hSw); go_simp) <;> with_reducible rfl
              try simp only [Act.put, List.setIfInBounds_toArray, List.set_cons_zero, List.set_cons_succ, List.getElem_toArray, List.getElem_cons_succ, List.getElem_cons_zero]
              refine wpAnyH_ready (rs := [6, 12]) (by kernel_rfl) (by simp) ?_
              refine (AllReadyH.cons rfl (fun K hK => ?_) (AllReadyH.cons rfl (fun K hK => ?_) AllReadyH.nil))
              · skip
                try dsimp only [List.getElem_toArray, List.getElem_cons_succ, List.getElem_cons_zero]
                go_simp
                refine hK.out _ _ ?_ (fun hHeld => ?_)
                · (try dsimp only); all_goals trivial
                clear hK K
                try simp only [Act.put, List.setIfInBounds_toArray, List.set_cons_zero, List.set_cons_succ, List.getElem_toArray, List.getElem_cons_succ, List.getElem_cons_zero]
                refine wpAnyH_take (i := 7) (v := ?_) rfl (by kernel_rfl) (by kernel_rfl) (by kernel_rfl) (fun _ _ _ h => h) (Or.inl ⟨by rfl, ?_⟩) (by assumption) ?_
                rotate_left
                · (intro w hSw; (try dsimp only at hSw); go_simp) <;> with_reducible rfl
                try simp only [Act.put, List.setIfInBounds_toArray, List.set_cons_zero, List.set_cons_succ, List.getElem_toArray, List.getElem_cons_succ, List.getElem_cons_zero]
                refine wpAnyH_ready (rs := [12]) (by kernel_rfl) (by simp) ?_
                refine AllReadyH.cons rfl (fun K hK => ?_) AllReadyH.nil
                try dsimp only [List.getElem_toArray, List.getElem_cons_succ, List.getElem_cons_zero]
                go_simp
                refine hK.out _ _ ?_ (fun hHeld => ?_)
                · (try dsimp only); all_goals trivial
                clear hK K
                try simp only [Act.put, List.setIfInBounds_toArray, List.set_cons_zero, List.set_cons_succ, List.getElem_toArray, List.getElem_cons_succ, List.getElem_cons_zero]
                refine wpAnyH_take (i := 13) (v := ?_) rfl (by kernel_rfl) (by kernel_rfl) (by kernel_rfl) (fun _ _ _ h => h) (Or.inl ⟨by rfl, ?_⟩) (by assumption) ?_
                rotate_left
                · (intro w hSw; (try dsimp only at hSw); go_simp) <;> with_reducible rfl
                try simp only [Act.put, List.setIfInBounds_toArray, List.set_cons_zero, List.set_cons_succ, List.getElem_toArray, List.getElem_cons_succ, List.getElem_cons_zero]
                refine wpAnyH_take (i := 14) (v := ?_) rfl (by kernel_rfl) (by kernel_rfl) (by kernel_rfl) (fun _ _ _ h => h) (Or.inl ⟨by rfl, ?_⟩) (by assumption) ?_
                rotate_left
                · (intro w hSw; (try dsimp only at hSw); go_simp) <;> with_reducible rfl
                try simp only [Act.put, List.setIfInBounds_toArray, List.set_cons_zero, List.set_cons_succ, List.getElem_toArray, List.getElem_cons_succ, List.getElem_cons_zero]
                refine wpAnyH_ready (rs := [15]) (by kernel_rfl) (by simp) ?_
                refine AllReadyH.cons rfl (fun K hK => ?_) AllReadyH.nil
                try dsimp only [List.getElem_toArray, List.getElem_cons_succ, List.getElem_cons_zero]
                go_simp
                refine hK.out _ _ ?_ (fun hHeld => ?_)
                · (try dsimp only); all_goals trivial
                clear hK K
                try simp only [Act.put, List.setIfInBounds_toArray, List.set_cons_zero, List.set_cons_succ, List.getElem_toArray, List.getElem_cons_succ, List.getElem_cons_zero]
                refine wpAnyH_done (by kernel_rfl) ?_ _
                have HC := Lib.hid (show (((wx.setCell ⟨g, j * 2, none⟩ (.int .i64 (-ty))).setCell ⟨g, j * 2 + 1, none⟩ (.int .i64 tx)).drew).ownsRow w2.heap.size 54 2 (.slice (some ⟨g, 0, none⟩) L.length c9) L.length (tubeRow (M'.set j (turnT (tubeAt M j)))) by
                  rw [HX.out, ← tubeRow_set]
                  exact (((Ho'.out.stored (j * 2) _).1.stored (j * 2 + 1) _).1.drew))
                have hbq : Below w2.heap.size w2 (((wx.setCell ⟨g, j * 2, none⟩ (.int .i64 (-ty))).setCell ⟨g, j * 2 + 1, none⟩ (.int .i64 tx)).drew) := ((hb'.setCell hg1 _).setCell hg1 _).drew
                clear d0 d1 f0 f1
                try go_wp2
                go_roundw
                case rel => exact ⟨j + 1, _, by omega, by go_num, HS.out, HC.out, hbq⟩
                case measure => simp [intOf]; omega
              · skip
                try dsimp only [List.getElem_toArray, List.getElem_cons_succ, List.getElem_cons_zero]
                go_simp
                refine hK.out _ _ ?_ (fun hHeld => ?_)
                · (try dsimp only); all_goals trivial
                clear hK K
                try simp only [Act.put, List.setIfInBounds_toArray, List.set_cons_zero, List.set_cons_succ, List.getElem_toArray, List.getElem_cons_succ, List.getElem_cons_zero]
                refine wpAnyH_ready (rs := [6]) (by kernel_rfl) (by simp) ?_
                refine AllReadyH.cons rfl (fun K hK => ?_) AllReadyH.nil
                try dsimp only [List.getElem_toArray, List.getElem_cons_succ, List.getElem_cons_zero]
                go_simp
                refine hK.out _ _ ?_ (fun hHeld => ?_)
                · (try dsimp only); all_goals trivial
                clear hK K
                try simp only [Act.put, List.setIfInBounds_toArray, List.set_cons_zero, List.set_cons_succ, List.getElem_toArray, List.getElem_cons_succ, List.getElem_cons_zero]
                refine wpAnyH_take (i := 7) (v := ?_) rfl (by kernel_rfl) (by kernel_rfl) (by kernel_rfl) (fun _ _ _ h => h) (Or.inl ⟨by rfl, ?_⟩) (by assumption) ?_
                rotate_left
                · (intro w hSw; (try dsimp only at hSw); go_simp) <;> with_reducible rfl
                try simp only [Act.put, List.setIfInBounds_toArray, List.set_cons_zero, List.set_cons_succ, List.getElem_toArray, List.getElem_cons_succ, List.getElem_cons_zero]
                refine wpAnyH_take (i := 13) (v := ?_) rfl (by kernel_rfl) (by kernel_rfl) (by kernel_rfl) (fun _ _ _ h => h) (Or.inl ⟨by rfl, ?_⟩) (by assumption) ?_
                rotate_left
                · (intro w hSw; (try dsimp only at hSw); go_simp) <;> with_reducible rfl
                try simp only [Act.put, List.setIfInBounds_toArray, List.set_cons_zero, List.set_cons_succ, List.getElem_toArray, List.getElem_cons_succ, List.getElem_cons_zero]
                refine wpAnyH_take (i := 14) (v := ?_) rfl (by kernel_rfl) (by kernel_rfl) (by kernel_rfl) (fun _ _ _ h => h) (Or.inl ⟨by rfl, ?_⟩) (by assumption) ?_
                rotate_left
                · (intro w hSw; (try dsimp only at hSw); go_simp) <;> with_reducible rfl
                try simp only [Act.put, List.setIfInBounds_toArray, List.set_cons_zero, List.set_cons_succ, List.getElem_toArray, List.getElem_cons_succ, List.getElem_cons_zero]
                refine wpAnyH_ready (rs := [15]) (by kernel_rfl) (by simp) ?_
                refine AllReadyH.cons rfl (fun K hK => ?_) AllReadyH.nil
                try dsimp only [List.getElem_toArray, List.getElem_cons_succ, List.getElem_cons_zero]
                go_simp
                refine hK.out _ _ ?_ (fun hHeld => ?_)
                · (try dsimp only); all_goals trivial
                clear hK K
                try simp only [Act.put, List.setIfInBounds_toArray, List.set_cons_zero, List.set_cons_succ, List.getElem_toArray, List.getElem_cons_succ, List.getElem_cons_zero]
                refine wpAnyH_done (by kernel_rfl) ?_ _
                have HC := Lib.hid (show (((wx.setCell ⟨g, j * 2, none⟩ (.int .i64 (-ty))).setCell ⟨g, j * 2 + 1, none⟩ (.int .i64 tx)).drew).ownsRow w2.heap.size 54 2 (.slice (some ⟨g, 0, none⟩) L.length c9) L.length (tubeRow (M'.set j (turnT (tubeAt M j)))) by
                  rw [HX.out, ← tubeRow_set]
                  exact (((Ho'.out.stored (j * 2) _).1.stored (j * 2 + 1) _).1.drew))
                have hbq : Below w2.heap.size w2 (((wx.setCell ⟨g, j * 2, none⟩ (.int .i64 (-ty))).setCell ⟨g, j * 2 + 1, none⟩ (.int .i64 tx)).drew) := ((hb'.setCell hg1 _).setCell hg1 _).drew
                clear d0 d1 f0 f1
                try go_wp2
                go_roundw
                case rel => exact ⟨j + 1, _, by omega, by go_num, HS.out, HC.out, hbq⟩
                case measure => simp [intOf]; omega
            · have hje : j = L.length := by omega
              have HJ := Lib.hid (show M' = M.map turnT from (by have h0 := Hhalf.out; rw [hje, ← HM.out] at h0; exact h0.all))
              clear hje
              go_wp2
              go_roundw
              case rel => exact ⟨k', M.map turnT, by have := Hk'.out; omega, by (have := Hk'.out; subst this; go_num), by rw [List.length_map]; exact HM.out, Hnear.out.turn, by (have h0 := Hturn.out; rw [Hk'.out, turnK] at h0; exact h0), by rw [← HJ.out]; exact Ho'.out, hb'⟩
              case measure => simp [intOf]; omega
        · have hk0 : k = 0 := by omega
          have HT := Lib.hid (show turnK Q L = M by rw [← Hturn.out, hk0]; rfl)
          clear hk0
          go_wp2
          go_ret2
          exact RetSC.ok H.out Ho.out (by rw [turnK_len]) (by rw [HT.out]) hsz2 (hb2.trans (Hb.out.mono hsz2))

end Go.Proofs.Ytmjjlpkleapaeaa
