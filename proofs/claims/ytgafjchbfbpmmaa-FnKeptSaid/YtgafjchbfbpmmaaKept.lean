/- The walks of keptNames. Printed by gen_kept.py. -/
import Derived.Test.YtgafjchbfbpmmaaKeptM
namespace Go.Proofs.Ytgafjchbfbpmmaa
open Go.RowKit

theorem own_prefix {w : World} {base g n c : Nat} {e : TypeId} {xs : List Value} (ho : w.ownsRow base e 1 (.slice (some ⟨g, 0, none⟩) n c) n xs) {k : Nat} (hk : k ≤ n) : w.ownsRow base e 1 (.slice (some ⟨g, 0, none⟩) k c) k (xs.take k) := by
  rcases ho.2 with ⟨h, _⟩ | ⟨g', cap, cur, hv, hb, hh, hn, hc, hs, ht⟩
  · cases h
  · injection hv with h1 h2 h3
    injection h1 with h1
    injection h1 with h1
    subst h1; subst h3
    refine ⟨by rw [List.length_take, ho.1]; omega, .inr ⟨g, c, cur, rfl, hb, hh, by omega, hc, hs, ?_⟩⟩
    rw [← ht, List.take_take]; congr 1; omega
theorem keptStep_keep {L : List Promise} {T : List Int} {i : Int} (h : ¬ 0 < firstBreach (pick L (T ++ [i]))) : keptStep L T i = T ++ [i] := by simp [keptStep, h]
theorem keptStep_drop {L : List Promise} {T : List Int} {i : Int} (h : 0 < firstBreach (pick L (T ++ [i]))) {x : Nat} (hx : worstIx (pick L (T ++ [i])) (T.length + 1) = x) : keptStep L T i = (T ++ [i]).take x ++ (T ++ [i]).drop (x + 1) := by
  simp only [keptStep, h, if_true, hx, List.eraseIdx_eq_take_drop_succ]
theorem intsRow_tk (l : List Int) (k : Nat) : (intsRow l).take k = intsRow (l.take k) := by simp [intsRow, List.map_take]
theorem intsRow_dp (l : List Int) (k : Nat) : (intsRow l).drop k = intsRow (l.drop k) := by simp [intsRow, List.map_drop]

def nmTo (L : List Promise) (K : List Int) (q : Nat) : List ByteArray := ((List.range q).filter fun i : Nat => K.contains (i : Int)).map fun i => (promiseAt L i).name
theorem nmTo_yes {L : List Promise} {K : List Int} {q : Nat} (h : K.contains (q : Int) = true) : nmTo L K (q + 1) = nmTo L K q ++ [(promiseAt L q).name] := by
  simp only [nmTo, List.range_succ, List.filter_append, List.map_append]
  congr 1
  simp only [List.filter_cons, h, if_true, List.filter_nil, List.map_cons, List.map_nil]
theorem nmTo_no {L : List Promise} {K : List Int} {q : Nat} (h : K.contains (q : Int) = false) : nmTo L K (q + 1) = nmTo L K q := by
  simp only [nmTo, List.range_succ, List.filter_append, List.map_append]
  simp only [List.filter_cons, h, Bool.false_eq_true, if_false, List.filter_nil, List.map_nil, List.append_nil]
theorem nmTo_le (L : List Promise) (K : List Int) (q : Nat) : (nmTo L K q).length ≤ q := by
  unfold nmTo
  rw [List.length_map]
  have := List.length_filter_le (fun i : Nat => K.contains (i : Int)) (List.range q)
  simpa using this
/-- The names so far, and the one of q if it stands among the first j. -/
def nmAt (L : List Promise) (K : List Int) (q j : Nat) : List ByteArray := nmTo L K q ++ if (K.take j).contains (q : Int) then [(promiseAt L q).name] else []
theorem nmAt_zero (L : List Promise) (K : List Int) (q : Nat) : nmAt L K q 0 = nmTo L K q := by simp [nmAt]
theorem nmAt_all (L : List Promise) (K : List Int) (q : Nat) : nmAt L K q K.length = nmTo L K (q + 1) := by
  unfold nmAt
  rw [List.take_length]
  cases h : K.contains (q : Int)
  · rw [nmTo_no h]; simp
  · rw [nmTo_yes h]; simp
theorem nmAt_le (L : List Promise) (K : List Int) (q j : Nat) : (nmAt L K q j).length ≤ q + 1 := by
  unfold nmAt
  have := nmTo_le L K q
  rw [List.length_append]
  split <;> simp <;> omega
theorem take_has (K : List Int) {j : Nat} (hj : j < K.length) (x : Int) : (K.take (j + 1)).contains x = ((K.take j).contains x || (x == intsAt K j)) := by
  rw [take_snoc K 0 hj]
  rw [Bool.eq_iff_iff]
  simp [intsAt, List.contains_eq_mem]
theorem nmAt_no {L : List Promise} {K : List Int} {q j : Nat} (hj : j < K.length) (h : intsAt K j ≠ (q : Int)) : nmAt L K q (j + 1) = nmAt L K q j := by
  unfold nmAt
  rw [take_has K hj, show ((q : Int) == intsAt K j) = false by simp; exact fun e => h e.symm, Bool.or_false]
theorem nmAt_yes {L : List Promise} {K : List Int} {q j : Nat} (hK : K.Nodup) (hj : j < K.length) (h : intsAt K j = (q : Int)) : nmAt L K q (j + 1) = nmAt L K q j ++ [(promiseAt L q).name] := by
  unfold nmAt
  have hn : (K.take j).contains (q : Int) = false := by
    rw [Bool.eq_false_iff]
    intro hc
    have hm : (q : Int) ∈ K.take j := by simpa using hc
    have hs : K = K.take j ++ K.drop j := (List.take_append_drop j K).symm
    have hd : (q : Int) ∈ K.drop j := by
      rw [List.drop_eq_getElem_cons hj]
      have : K[j] = (q : Int) := by rw [← h]; simp [intsAt, List.getD, hj]
      rw [this]; simp
    rw [hs] at hK
    exact (List.nodup_append.1 hK).2.2 _ hm _ hd rfl
  rw [take_has K hj, hn, h]
  simp

/-- What is held behind q rounds of the choice. -/
def KeptAt (base : Nat) (e : TypeId) (L : List Promise) (q : Nat) (v : Value) (w3 w : World) : Prop :=
  ∃ Ao co, v = .slice Ao (keptTo L q).length co ∧ w.ownsRow base e 1 (.slice Ao (keptTo L q).length co) (keptTo L q).length (intsRow (keptTo L q)) ∧ Below w3.heap.size w3 w

set_option maxHeartbeats 8000000 in
theorem implKept_any (w : World) (L : List Promise) (v : Value) (hv : Sl w 3 v L.length (promiseRow L)) (hL : promIn L) :
    Calls Try.prog 73 #[v] w (Gives w.heap.size 9 1 (keptNm L).length (strsRow (keptNm L)) w) := by
  have Hv := Lib.hid hv
  obtain ⟨A, c, rfl, hl, hc, hr⟩ := hv
  have Hr := Lib.hid hr
  have h41 := hL.1
  have HL := Lib.hid hL
  clear hr hl hc hL
  obtain ⟨j0, hj, hy0, hy1, hy2⟩ := info_parts Try.info_int
  obtain ⟨i0, hi, hz0, hz1, hz2⟩ := info_parts Try.info_strs
  obtain ⟨p0, hp, hx0, hx1, hx2⟩ := info_parts Try.infoPromise
  go_enter Try.func73, Try.ntmps73
  go_wp2_with fail
  refine (implDayOrder_any w L _ Hv.out HL.out).mono ?_
  rintro e w3 ⟨y, rfl, ho3, hb3⟩
  obtain ⟨A3, c3, rfl, _, _⟩ := own_slice ho3
  have Hr3 := Lib.hid (Hr.out.below' hb3)
  have Hd3 := Lib.hid (Rd.of_own ho3)
  have hs3 := hb3.size
  clear ho3
  go_wp2
  go_loopw [3, 19] (fun s i wr => ∃ q : Nat, q ≤ L.length ∧ i = .int .i64 q ∧ KeptAt w3.heap.size 3 L q s w3 wr) (fun _ i _ => L.length - (intOf i).toNat)
  case atStart => exact ⟨0, Nat.zero_le _, rfl, none, 0, rfl, World.ownsRow_nil _ _ _ _, Below.refl _ _⟩
  case round =>
    obtain ⟨q, hq, rfl, Ao, co, rfl, ho, hb⟩ := hrel
    have Ho := Lib.hid ho
    have hsz := hb.size
    have hTl := keptTo_le L hq
    clear ho
    obtain ⟨wo, rfl⟩ : ∃ wo : World, wo = wr := ⟨_, rfl⟩
    by_cases hlt : q < L.length
    · obtain ⟨b, hbe, hbl⟩ := orderBy_mem (dayKey L) L.length q hlt
      obtain ⟨g3, o3, rfl, hg3, d0⟩ := (show Rd wo w3.heap.size 1 A3 (dayOrd L).length (intsRow (dayOrd L)) by rw [dayOrd_len]; exact Hd3.out.below hb (Nat.le_refl _)).ints (k := q) (by rw [dayOrd_len]; exact hlt)
      rw [show intsAt (dayOrd L) q = b from hbe] at d0
      have Hbe := Lib.hid (show intsAt (dayOrd L) q = b from hbe)
      clear hbe
      have i1 : (0 : Int) ≤ (q : Int) := Int.natCast_nonneg _
      have i2 : (q : Int) < (L.length : Int) := by omega
      obtain ⟨T, hT⟩ : ∃ T, T = keptTo L q := ⟨_, rfl⟩
      rw [← hT] at hTl Ho
      have HT := Lib.hid hT
      have hTm : ∀ j, j < (T ++ [(b : Int)]).length → ∃ b' : Nat, intsAt (T ++ [(b : Int)]) j = b' ∧ b' < L.length := by
        intro j hjl
        by_cases e : j < T.length
        · obtain ⟨b', e1, e2⟩ := keptTo_at (L := L) hq (j := j) (by rw [← hT]; exact e)
          rw [← hT] at e1
          exact ⟨b', by rw [← e1]; simp [intsAt, List.getD, List.getElem?_append_left e], e2⟩
        · have e3 : j = T.length := by simp at hjl; omega
          exact ⟨b, by rw [e3]; simp [intsAt, List.getD], hbl⟩
      have HTm := Lib.hid hTm
      rw [show (keptTo L q).length = T.length by rw [hT]]
      clear hT hTm
      go_wp2_with (at_builtin; refine wpList_append_sl _ rfl (.tmp 23) (.tmp 25) _ rfl w3.heap.size 3 j0 _ 1 8 Try.underlying84 hj hy0 hy1 hy2 rfl (by omega) _ T.length (intsRow T) rfl (Ho.out.alloc _) (some ⟨wo.heap.size, 0, none⟩) 1 1 [.int .i64 (b : Int)] rfl (Rd.of_block (cs := #[.int .i64 (b : Int)]) (heap_alloc_new _ _) rfl) (by intro x hx; simp at hx; subst hx; rfl) (by unfold maxLen; omega) (by omega) (by simp <;> omega) ?_; intro A8 c8 w8 ho8 hg8 hor8)
      have b8 : Below w3.heap.size w3 w8 := (hb.alloc hsz _).grown hg8 (by simp; omega) (fun p hp => (World.ownsRow.lt Ho.out p hp).1)
      have O8 := Lib.hid (show w8.ownsRow w3.heap.size 3 1 (.slice A8 (T.length + 1) c8) (T.length + 1) (intsRow (T ++ [(b : Int)])) by rw [intsRow_append]; exact ho8)
      obtain ⟨_, hl8, hc8⟩ := own_caps O8.out
      unfold maxLen at hc8
      have hs8 := b8.size
      obtain ⟨g8, cc, hv8, hg8b, hg8lt⟩ := own_form O8.out (by omega)
      injection hv8 with hA8 hn8 hc8'
      subst hA8
      clear hn8 hc8' cc ho8 hg8 hor8
      obtain ⟨T', hT'⟩ : ∃ T', T' = T ++ [(b : Int)] := ⟨_, rfl⟩
      have hTl' : T'.length = T.length + 1 := by rw [hT']; simp
      have HT' := Lib.hid hT'
      rw [← hT'] at O8 HTm
      clear hT'
      go_loopw [6, 29] (fun s i wr => ∃ (k : Nat) (N : List Promise) (An : Option Addr) (cn : Nat), k ≤ T'.length ∧ i = .int .i64 k ∧ N = pick L (T'.take k) ∧ N.length = k ∧ s = .slice An N.length cn ∧ wr.ownsRow w8.heap.size 43 3 (.slice An N.length cn) N.length (promiseRow N) ∧ Below w8.heap.size w8 wr) (fun _ i _ => T'.length - (intOf i).toNat)
      case atStart => exact ⟨0, [], none, 0, Nat.zero_le _, rfl, rfl, rfl, rfl, World.ownsRow_nil _ _ _ _, Below.refl _ _⟩
      case round =>
        obtain ⟨k, N, An, cn, hk, rfl, hN, hNl, rfl, hn, hbn⟩ := hrel
        have HN := Lib.hid hN
        have Hn := Lib.hid hn
        have hzn := hbn.size
        have HNl := Lib.hid hNl
        have hNl' : N.length ≤ 41 := by omega
        clear hN hn hNl
        have k1 : (0 : Int) ≤ (k : Int) := Int.natCast_nonneg _
        have O8n := Lib.hid (own_below O8.out hbn)
        by_cases hlk : k < T'.length
        · obtain ⟨b2, hb2e, hb2l⟩ := HTm.out k hlk
          have e0 := (O8n.out.cellAt k (by omega)).trans (intsRow_at T' k hlk)
          rw [hb2e] at e0
          have Hb2 := Lib.hid hb2e
          clear hb2e
          obtain ⟨g, o, rfl, hg, c0, c1, c2⟩ := (Hr3.out.below (b8.trans (hbn.mono hs8)) (Nat.le_refl _)).promise hb2l
          have k2 : (k : Int) < (T.length : Int) + 1 := by omega
          have k3 : (0 : Int) ≤ (b2 : Int) := Int.natCast_nonneg _
          have k4 : (b2 : Int) < (L.length : Int) := by omega
          go_wp2_with (at_builtin; refine wpList_append_sl _ rfl (.tmp 33) (.tmp 38) _ rfl w8.heap.size 43 p0 _ 3 32 Try.underlying25 hp hx0 hx1 hx2 rfl (by omega) _ N.length (promiseRow N) rfl (Hn.out.alloc _) (some ⟨wr.heap.size, 0, none⟩) 1 1 [.string (promiseAt L b2).name, .int .i64 (promiseAt L b2).day, .int .i64 (promiseAt L b2).min] rfl (Rd.of_block (cs := #[.string (promiseAt L b2).name, .int .i64 (promiseAt L b2).day, .int .i64 (promiseAt L b2).min]) (heap_alloc_new _ _) rfl) (fun u hu => promiseCells_one (promiseAt L b2) u hu) (by unfold maxLen; omega) (by omega) (by simp <;> omega) ?_; intro A7 c7 w7 ho7 hg7 hor7)
          have bn7 : Below w8.heap.size w8 w7 := (hbn.alloc hzn _).grown hg7 (by simp; omega) (fun p hp => (World.ownsRow.lt Hn.out p hp).1)
          have O7 := Lib.hid ho7
          clear ho7 hg7 hor7
          go_roundw
          case rel =>
            refine ⟨k + 1, N ++ [promiseAt L b2], A7, c7, by omega, by go_num, by rw [pick_snoc L T' hlk, ← HN.out, Hb2.out]; rfl, by rw [List.length_append, HNl.out]; rfl, by rw [List.length_append]; rfl, ?_, bn7⟩
            rw [List.length_append, promiseRow_append]; exact O7.out
          case measure => simp [intOf]; omega
        · have hkT : k = T'.length := by omega
          have HN' := Lib.hid (show N = pick L T' by rw [HN.out, List.take_of_length_le (by omega)])
          have hNin : promIn N := by rw [HN'.out]; exact pick_in HL.out (by omega) HTm.out
          have HNin := Lib.hid hNin
          have hNT : N.length = T'.length := by rw [HNl.out]; exact hkT
          have HkT := Lib.hid hkT
          have HNT := Lib.hid hNT
          have hbr := breach_all hNin
          clear hNin hkT hNT
          go_wp2_with fail
          refine (implBreach_any _ N _ (Sl.of_own Hn.out) HNin.out).mono ?_
          rintro e w9 ⟨rfl, hb9⟩
          have b89 := hbn.trans (hb9.mono hzn)
          have b9 := b8.trans (b89.mono hs8)
          have O9 := Lib.hid (own_below O8.out b89)
          have N9 := Lib.hid (own_below Hn.out hb9)
          by_cases h0 : 0 < firstBreach N
          · have t0 : (firstBreach N == 0) = false := by simp; omega
            have H0 := Lib.hid h0
            clear h0
            go_wp2
            go_loopw [9, 46] (fun z i wr => ∃ (k2 x m : Nat), k2 ≤ T'.length ∧ i = .int .i64 k2 ∧ z = .int .i64 x ∧ x = worstIx N k2 ∧ x ≤ k2 ∧ x < T'.length ∧ wr = w9.drewN m) (fun _ i _ => T'.length - (intOf i).toNat)
            case atStart => exact ⟨0, 0, 0, Nat.zero_le _, rfl, rfl, rfl, Nat.le_refl _, by omega, rfl⟩
            case round =>
              obtain ⟨k2, x, m, hk2, rfl, rfl, hx, hxk, hxT, rfl⟩ := hrel
              have Hx := Lib.hid hx
              clear hx
              have x1 : (0 : Int) ≤ (x : Int) := Int.natCast_nonneg _
              have x2 : (x : Int) < (T.length : Int) + 1 := by omega
              have y1 : (0 : Int) ≤ (k2 : Int) := Int.natCast_nonneg _
              by_cases hlk2 : k2 < T'.length
              · have y2 : (k2 : Int) < (T.length : Int) + 1 := by omega
                obtain ⟨gn, cc, hvn, _, hgnlt⟩ := own_form N9.out (by have := HNT.out; omega)
                injection hvn with hAn hnn hcn'
                subst hAn
                clear hnn hcn' cc
                obtain ⟨_, hln, hcn⟩ := own_caps N9.out
                unfold maxLen at hcn
                obtain ⟨_, _, q2⟩ := promiseRow_at N k2 (by have := HNT.out; omega)
                have f2 := (N9.out.cellAt (k2 * 3 + 2) (by have := HNT.out; omega)).trans q2
                obtain ⟨_, _, q2'⟩ := promiseRow_at N x (by have := HNT.out; omega)
                have f2' := (N9.out.cellAt (x * 3 + 2) (by have := HNT.out; omega)).trans q2'
                clear q2 q2'
                have y3 : (k2 : Int) < (N.length : Int) := by have := HNT.out; omega
                have y4 : (x : Int) < (N.length : Int) := by have := HNT.out; omega
                by_cases hge : (promiseAt N x).min ≤ (promiseAt N k2).min
                · have t2 : decide ((promiseAt N x).min ≤ (promiseAt N k2).min) = true := by simpa using hge
                  have E := Lib.hid (show worstIx N (k2 + 1) = k2 by rw [worstIx, ← Hx.out, worstGo, if_pos hge])
                  clear hge
                  go_wp2
                  go_quiet (fail)
                  go_wp2
                  go_roundw
                  case rel => exact ⟨k2 + 1, k2, m + _, by omega, by go_num, rfl, E.out.symm, by omega, by omega, rfl⟩
                  case measure => simp [intOf]; omega
                · have t2 : decide ((promiseAt N x).min ≤ (promiseAt N k2).min) = false := by simpa using hge
                  have E := Lib.hid (show worstIx N (k2 + 1) = x by rw [worstIx, ← Hx.out, worstGo, if_neg hge])
                  clear hge
                  go_wp2
                  go_quiet (fail)
                  go_wp2
                  go_roundw
                  case rel => exact ⟨k2 + 1, x, m + _, by omega, by go_num, rfl, E.out.symm, by omega, by omega, rfl⟩
                  case measure => simp [intOf]; omega
              · have hk2T : k2 = T.length + 1 := by omega
                have HX := Lib.hid (show worstIx (pick L (T ++ [(b : Int)])) (T.length + 1) = x by rw [← HT'.out, ← HN'.out, ← hk2T, Hx.out])
                clear hk2T
                have x3 := IntWalk.i64_in ((x : Int) + 1) (by omega)
                have x4 : (0 : Int) ≤ (x : Int) + 1 := by omega
                have x5 : (x : Int) + 1 ≤ (T.length : Int) + 1 := by omega
                have x6 : (x : Int) ≤ (T.length : Int) + 1 := by omega
                have x7 : (x : Int) ≤ (c8 : Int) := by omega
                have x8 : x ≤ c8 := by omega
                have x9 : (x : Int) ≤ (x : Int) + 1 := by omega
                by_cases hcap : c8 = x + 1
                · subst hcap
                  go_wp2
                  refine wp_region_held_drew (S := (fun _ => True)) (by kernel_rfl) ?_ (fun hHeld => ?_)
                  · (try dsimp only); first | done | trivial
                  refine wpAnyH_take (i := 0) (v := ?_) rfl (by kernel_rfl) (by kernel_rfl) (by kernel_rfl) (fun _ _ _ h => h) (Or.inl ⟨by rfl, ?_⟩) (by assumption) ?_
                  rotate_left
                  · (intro w hSw; (try dsimp only at hSw); go_simp) <;> with_reducible rfl
                  try simp only [Act.put, List.setIfInBounds_toArray, List.set_cons_zero, List.set_cons_succ, List.getElem_toArray, List.getElem_cons_succ, List.getElem_cons_zero]
                  refine wpAnyH_take (i := 1) (v := ?_) rfl (by kernel_rfl) (by kernel_rfl) (by kernel_rfl) (fun _ _ _ h => h) (Or.inl ⟨by rfl, ?_⟩) (by assumption) ?_
                  rotate_left
                  · (intro w hSw; (try dsimp only at hSw); go_simp) <;> with_reducible rfl
                  try simp only [Act.put, List.setIfInBounds_toArray, List.set_cons_zero, List.set_cons_succ, List.getElem_toArray, List.getElem_cons_succ, List.getElem_cons_zero]
                  refine wpAnyH_take (i := 2) (v := ?_) rfl (by kernel_rfl) (by kernel_rfl) (by kernel_rfl) (fun _ _ _ h => h) (Or.inl ⟨by rfl, ?_⟩) (by assumption) ?_
                  rotate_left
                  · (intro w hSw; (try dsimp only at hSw); go_simp) <;> with_reducible rfl
                  try simp only [Act.put, List.setIfInBounds_toArray, List.set_cons_zero, List.set_cons_succ, List.getElem_toArray, List.getElem_cons_succ, List.getElem_cons_zero]
                  refine wpAnyH_take (i := 3) (v := ?_) rfl (by kernel_rfl) (by kernel_rfl) (by kernel_rfl) (fun _ _ _ h => h) (Or.inl ⟨by rfl, ?_⟩) (by assumption) ?_
                  rotate_left
                  · (intro w hSw; (try dsimp only at hSw); go_simp) <;> with_reducible rfl
                  try simp only [Act.put, List.setIfInBounds_toArray, List.set_cons_zero, List.set_cons_succ, List.getElem_toArray, List.getElem_cons_succ, List.getElem_cons_zero]
                  refine wpAnyH_take (i := 4) (v := ?_) rfl (by kernel_rfl) (by kernel_rfl) (by kernel_rfl) (fun _ _ _ h => h) (Or.inl ⟨by rfl, ?_⟩) (by assumption) ?_
                  rotate_left
                  · (intro w hSw; (try dsimp only at hSw); go_simp) <;> with_reducible rfl
                  try simp only [Act.put, List.setIfInBounds_toArray, List.set_cons_zero, List.set_cons_succ, List.getElem_toArray, List.getElem_cons_succ, List.getElem_cons_zero]
                  refine wpAnyH_take (i := 5) (v := ?_) rfl (by kernel_rfl) (by kernel_rfl) (by kernel_rfl) (fun _ _ _ h => h) (Or.inl ⟨by rfl, ?_⟩) (by assumption) ?_
                  rotate_left
                  · (intro w hSw; (try dsimp only at hSw); go_simp) <;> with_reducible rfl
                  try simp only [Act.put, List.setIfInBounds_toArray, List.set_cons_zero, List.set_cons_succ, List.getElem_toArray, List.getElem_cons_succ, List.getElem_cons_zero]
                  refine wpAnyH_take (i := 6) (v := ?_) rfl (by kernel_rfl) (by kernel_rfl) (by kernel_rfl) (fun _ _ _ h => h) (Or.inl ⟨by rfl, ?_⟩) (by assumption) ?_
                  rotate_left
                  · (intro w hSw; (try dsimp only at hSw); go_simp) <;> with_reducible rfl
                  try simp only [Act.put, List.setIfInBounds_toArray, List.set_cons_zero, List.set_cons_succ, List.getElem_toArray, List.getElem_cons_succ, List.getElem_cons_zero]
                  refine wpAnyH_ready (rs := [7]) (by kernel_rfl) (by simp) ?_
                  refine AllReadyH.cons rfl (fun K hK => ?_) AllReadyH.nil
                  (refine step_append_sl _ (by rfl) (.tmp 64) (.tmp 68) _ (by rfl) w3.heap.size 3 j0 _ 1 8 Try.underlying84 hj hy0 hy1 hy2 rfl (by omega) _ x ((intsRow T').take x) (by rfl) (own_prefix (own_drewN O9.out (m + 1)) (by omega)) _ 0 _ [] (by rfl) Rd.none_ (fun u hu => by cases hu) (by unfold maxLen; omega) (by omega) b9.size ?_; intro A6 c6 w6 ho6 hg6 hor6)
                  refine hK.out _ _ ?_ (fun hHeld => ?_)
                  · (try dsimp only); first | done | trivial
                  clear hK K
                  try simp only [Act.put, List.setIfInBounds_toArray, List.set_cons_zero, List.set_cons_succ, List.getElem_toArray, List.getElem_cons_succ, List.getElem_cons_zero]
                  refine wpAnyH_take (i := 8) (v := ?_) rfl (by kernel_rfl) (by kernel_rfl) (by kernel_rfl) (fun _ _ _ h => h) (Or.inl ⟨by rfl, ?_⟩) (by assumption) ?_
                  rotate_left
                  · (intro w hSw; (try dsimp only at hSw); go_simp) <;> with_reducible rfl
                  try simp only [Act.put, List.setIfInBounds_toArray, List.set_cons_zero, List.set_cons_succ, List.getElem_toArray, List.getElem_cons_succ, List.getElem_cons_zero]
                  refine wpAnyH_done (by kernel_rfl) ?_ _
                  have b6 : Below w3.heap.size w3 w6 := (Below.drew (below_drewN b9 m)).grown hg6 b9.size (fun p hp => by simp [Value.ownBlock] at hp; omega)
                  have hE : keptTo L (q + 1) = T'.take x ++ T'.drop (x + 1) := by rw [keptTo_succ L hlt, ← HT.out, Hbe.out, keptStep_drop (by rw [← HT'.out, ← HN'.out]; exact H0.out) HX.out, ← HT'.out]
                  have hEl : (keptTo L (q + 1)).length = T.length := by rw [hE, List.length_append, List.length_take, List.length_drop]; omega
                  have HE := Lib.hid hE
                  have HEl := Lib.hid hEl
                  have O6 := Lib.hid ho6
                  clear hE hEl ho6 hg6 hor6
                  go_wp2
                  go_roundw
                  case rel =>
                    refine ⟨q + 1, by omega, by go_num, A6, c6, ?_, ?_, b6⟩
                    · rw [HEl.out]; congr 1; omega
                    · have h := O6.out
                      rw [HEl.out, HE.out]
                      have e : (intsRow T').take x ++ [] = intsRow (T'.take x ++ T'.drop (x + 1)) := by
                        rw [List.drop_of_length_le (by omega), List.append_nil, List.append_nil, intsRow_tk]
                      rw [e] at h
                      rw [show x + 0 = T.length by omega] at h
                      exact h
                  case measure => simp [intOf]; omega
                · skip
                  go_wp2
                  refine wp_region_held_drew (S := (fun _ => True)) (by kernel_rfl) ?_ (fun hHeld => ?_)
                  · (try dsimp only); first | done | trivial
                  refine wpAnyH_take (i := 0) (v := ?_) rfl (by kernel_rfl) (by kernel_rfl) (by kernel_rfl) (fun _ _ _ h => h) (Or.inl ⟨by rfl, ?_⟩) (by assumption) ?_
                  rotate_left
                  · (intro w hSw; (try dsimp only at hSw); go_simp) <;> with_reducible rfl
                  try simp only [Act.put, List.setIfInBounds_toArray, List.set_cons_zero, List.set_cons_succ, List.getElem_toArray, List.getElem_cons_succ, List.getElem_cons_zero]
                  refine wpAnyH_take (i := 1) (v := ?_) rfl (by kernel_rfl) (by kernel_rfl) (by kernel_rfl) (fun _ _ _ h => h) (Or.inl ⟨by rfl, ?_⟩) (by assumption) ?_
                  rotate_left
                  · (intro w hSw; (try dsimp only at hSw); go_simp) <;> with_reducible rfl
                  try simp only [Act.put, List.setIfInBounds_toArray, List.set_cons_zero, List.set_cons_succ, List.getElem_toArray, List.getElem_cons_succ, List.getElem_cons_zero]
                  refine wpAnyH_take (i := 2) (v := ?_) rfl (by kernel_rfl) (by kernel_rfl) (by kernel_rfl) (fun _ _ _ h => h) (Or.inl ⟨by rfl, ?_⟩) (by assumption) ?_
                  rotate_left
                  · (intro w hSw; (try dsimp only at hSw); go_simp) <;> with_reducible rfl
                  try simp only [Act.put, List.setIfInBounds_toArray, List.set_cons_zero, List.set_cons_succ, List.getElem_toArray, List.getElem_cons_succ, List.getElem_cons_zero]
                  refine wpAnyH_take (i := 3) (v := ?_) rfl (by kernel_rfl) (by kernel_rfl) (by kernel_rfl) (fun _ _ _ h => h) (Or.inl ⟨by rfl, ?_⟩) (by assumption) ?_
                  rotate_left
                  · (intro w hSw; (try dsimp only at hSw); go_simp) <;> with_reducible rfl
                  try simp only [Act.put, List.setIfInBounds_toArray, List.set_cons_zero, List.set_cons_succ, List.getElem_toArray, List.getElem_cons_succ, List.getElem_cons_zero]
                  refine wpAnyH_take (i := 4) (v := ?_) rfl (by kernel_rfl) (by kernel_rfl) (by kernel_rfl) (fun _ _ _ h => h) (Or.inl ⟨by rfl, ?_⟩) (by assumption) ?_
                  rotate_left
                  · (intro w hSw; (try dsimp only at hSw); go_simp) <;> with_reducible rfl
                  try simp only [Act.put, List.setIfInBounds_toArray, List.set_cons_zero, List.set_cons_succ, List.getElem_toArray, List.getElem_cons_succ, List.getElem_cons_zero]
                  refine wpAnyH_take (i := 5) (v := ?_) rfl (by kernel_rfl) (by kernel_rfl) (by kernel_rfl) (fun _ _ _ h => h) (Or.inl ⟨by rfl, ?_⟩) (by assumption) ?_
                  rotate_left
                  · (intro w hSw; (try dsimp only at hSw); go_simp) <;> with_reducible rfl
                  try simp only [Act.put, List.setIfInBounds_toArray, List.set_cons_zero, List.set_cons_succ, List.getElem_toArray, List.getElem_cons_succ, List.getElem_cons_zero]
                  refine wpAnyH_take (i := 6) (v := ?_) rfl (by kernel_rfl) (by kernel_rfl) (by kernel_rfl) (fun _ _ _ h => h) (Or.inl ⟨by rfl, ?_⟩) (by assumption) ?_
                  rotate_left
                  · (intro w hSw; (try dsimp only at hSw); go_simp) <;> with_reducible rfl
                  try simp only [Act.put, List.setIfInBounds_toArray, List.set_cons_zero, List.set_cons_succ, List.getElem_toArray, List.getElem_cons_succ, List.getElem_cons_zero]
                  refine wpAnyH_ready (rs := [7]) (by kernel_rfl) (by simp) ?_
                  refine AllReadyH.cons rfl (fun K hK => ?_) AllReadyH.nil
                  (refine step_append_sl _ (by rfl) (.tmp 64) (.tmp 68) _ (by rfl) w3.heap.size 3 j0 _ 1 8 Try.underlying84 hj hy0 hy1 hy2 rfl (by omega) _ x ((intsRow T').take x) (by rfl) (own_prefix (own_drewN O9.out (m + 1)) (by omega)) _ (T.length - x) _ ((intsRow T').drop (x + 1)) (by rfl) (by have h := own_drop (A := some ⟨g8, x + 1, none⟩) (own_drewN O9.out (m + 1)) (k := x + 1) (by omega) (fun _ => rfl); rw [show T.length + 1 - (x + 1) = T.length - x by omega] at h; exact h) (fun u hu => intsRow_one T' u (List.mem_of_mem_drop hu)) (by unfold maxLen; omega) (by omega) b9.size ?_; intro A6 c6 w6 ho6 hg6 hor6)
                  refine hK.out _ _ ?_ (fun hHeld => ?_)
                  · (try dsimp only); first | done | trivial
                  clear hK K
                  try simp only [Act.put, List.setIfInBounds_toArray, List.set_cons_zero, List.set_cons_succ, List.getElem_toArray, List.getElem_cons_succ, List.getElem_cons_zero]
                  refine wpAnyH_take (i := 8) (v := ?_) rfl (by kernel_rfl) (by kernel_rfl) (by kernel_rfl) (fun _ _ _ h => h) (Or.inl ⟨by rfl, ?_⟩) (by assumption) ?_
                  rotate_left
                  · (intro w hSw; (try dsimp only at hSw); go_simp) <;> with_reducible rfl
                  try simp only [Act.put, List.setIfInBounds_toArray, List.set_cons_zero, List.set_cons_succ, List.getElem_toArray, List.getElem_cons_succ, List.getElem_cons_zero]
                  refine wpAnyH_done (by kernel_rfl) ?_ _
                  have b6 : Below w3.heap.size w3 w6 := (Below.drew (below_drewN b9 m)).grown hg6 b9.size (fun p hp => by simp [Value.ownBlock] at hp; omega)
                  have hE : keptTo L (q + 1) = T'.take x ++ T'.drop (x + 1) := by rw [keptTo_succ L hlt, ← HT.out, Hbe.out, keptStep_drop (by rw [← HT'.out, ← HN'.out]; exact H0.out) HX.out, ← HT'.out]
                  have hEl : (keptTo L (q + 1)).length = T.length := by rw [hE, List.length_append, List.length_take, List.length_drop]; omega
                  have HE := Lib.hid hE
                  have HEl := Lib.hid hEl
                  have O6 := Lib.hid ho6
                  clear hE hEl ho6 hg6 hor6
                  go_wp2
                  go_roundw
                  case rel =>
                    refine ⟨q + 1, by omega, by go_num, A6, c6, ?_, ?_, b6⟩
                    · rw [HEl.out]; congr 1; omega
                    · have h := O6.out
                      rw [HEl.out, HE.out]
                      rw [intsRow_tk, intsRow_dp, ← intsRow_append] at h
                      rw [show x + (T.length - x) = T.length by omega] at h
                      exact h
                  case measure => simp [intOf]; omega
          · have t0 : (firstBreach N == 0) = true := by simp; omega
            have hE : keptTo L (q + 1) = T' := by rw [keptTo_succ L hlt, ← HT.out, Hbe.out, keptStep_keep (by rw [← HT'.out, ← HN'.out]; exact h0), ← HT'.out]
            have HE := Lib.hid hE
            clear hE h0
            go_wp2
            go_roundw
            case rel =>
              refine ⟨q + 1, by omega, by go_num, some ⟨g8, 0, none⟩, c8, ?_, ?_, b9⟩
              · rw [HE.out, hTl']
              · rw [HE.out, hTl']; exact O9.out
            case measure => simp [intOf]; omega
    · have hqL : q = L.length := by omega
      subst hqL
      obtain ⟨K, hK⟩ : ∃ K, K = keptIdx L := ⟨_, rfl⟩
      have hKd : K.Nodup := by rw [hK]; exact keptIdx_nodup L
      have hKl : K.length ≤ L.length := by rw [hK]; exact keptTo_le L (Nat.le_refl _)
      have HK := Lib.hid hK
      have HKd := Lib.hid hKd
      have hKm : ∀ j, j < K.length → ∃ b : Nat, intsAt K j = b ∧ b < L.length := by rw [hK]; exact fun j hj => keptTo_at (Nat.le_refl _) hj
      have HKm := Lib.hid hKm
      have OK := Lib.hid (show wo.ownsRow w3.heap.size 3 1 (.slice Ao K.length co) K.length (intsRow K) by rw [hK]; exact Ho.out)
      rw [show (keptTo L L.length).length = K.length by rw [hK]; rfl]
      have Hr4 := Lib.hid (Hr3.out.below' hb)
      clear hK hKd hKm
      go_wp2
      go_loopw [11, 73] (fun s i wr => ∃ (q : Nat) (ns : List ByteArray) (An : Option Addr) (cn : Nat), q ≤ L.length ∧ i = .int .i64 q ∧ ns = nmTo L K q ∧ s = .slice An ns.length cn ∧ wr.ownsRow wo.heap.size 9 1 (.slice An ns.length cn) ns.length (strsRow ns) ∧ Below wo.heap.size wo wr) (fun _ i _ => L.length - (intOf i).toNat)
      case atStart => exact ⟨0, [], none, 0, Nat.zero_le _, rfl, rfl, rfl, World.ownsRow_nil _ _ _ _, Below.refl _ _⟩
      case round =>
        obtain ⟨q, ns, An, cn, hq, rfl, hns, rfl, hn, hbn⟩ := hrel
        have Hns := Lib.hid hns
        have Hn := Lib.hid hn
        have hzn := hbn.size
        clear hns hn
        obtain ⟨wx, rfl⟩ : ∃ wx : World, wx = wr := ⟨_, rfl⟩
        by_cases hlq : q < L.length
        · obtain ⟨g, o, rfl, hg, c0, c1, c2⟩ := (Hr4.out.below hbn (Nat.le_refl _)).promise hlq
          go_wp2
          obtain ⟨wb, hwb⟩ : ∃ wb, wb = wx.alloc (.cells #[.string (promiseAt L q).name, .int .i64 (promiseAt L q).day, .int .i64 (promiseAt L q).min] 43) := ⟨_, rfl⟩
          have bb : Below wo.heap.size wo wb := by rw [hwb]; exact hbn.alloc hzn _
          have zb : wx.heap.size < wb.heap.size := by rw [hwb]; simp
          have e0 : wb.cell? ⟨wx.heap.size, 0, none⟩ = some (.string (promiseAt L q).name) := by rw [hwb]; go_simp
          have Nb := Lib.hid (show wb.ownsRow wo.heap.size 9 1 (.slice An ns.length cn) ns.length (strsRow ns) by rw [hwb]; exact Hn.out.alloc _)
          have hbx : some wx.heap.size ≠ (Value.slice An ns.length cn).ownBlock := fun h => by have := (World.ownsRow.lt Hn.out _ h.symm).2; omega
          have Hbx := Lib.hid hbx
          clear c0 c1 c2 hbx
          rw [← hwb]
          clear hwb
          go_loopw [11, 80] (fun s i wr => ∃ (j : Nat) (ms : List ByteArray) (Am : Option Addr) (cm : Nat), j ≤ K.length ∧ i = .int .i64 j ∧ ms = nmAt L K q j ∧ s = .slice Am ms.length cm ∧ wr.ownsRow wo.heap.size 9 1 (.slice Am ms.length cm) ms.length (strsRow ms) ∧ Below wo.heap.size wo wr ∧ wx.heap.size < wr.heap.size ∧ wr.cell? ⟨wx.heap.size, 0, none⟩ = some (.string (promiseAt L q).name) ∧ some wx.heap.size ≠ (Value.slice Am ms.length cm).ownBlock) (fun _ i _ => K.length - (intOf i).toNat)
          case atStart => exact ⟨0, ns, An, cn, Nat.zero_le _, rfl, by rw [nmAt_zero, Hns.out], rfl, Nb.out, bb, zb, e0, Hbx.out⟩
          case round =>
            obtain ⟨j, ms, Am, cm, hj5, rfl, hms, rfl, hm, hbm, hzm, hem, hbx⟩ := hrel
            have Hms := Lib.hid hms
            have Hm := Lib.hid hm
            have Hbx5 := Lib.hid hbx
            have hzw := hbm.size
            have hml : ms.length ≤ 42 := by have := nmAt_le L K q j; rw [← hms] at this; omega
            clear hms hm hbx
            by_cases hlj : j < K.length
            · obtain ⟨b, hbe, hbl⟩ := HKm.out j hlj
              have Ok := Lib.hid (own_below OK.out hbm)
              obtain ⟨gk, cc, hvk, _, hgklt⟩ := own_form Ok.out (by omega)
              injection hvk with hAk hnk hck'
              subst hAk
              clear hnk hck' cc
              obtain ⟨_, hlk, hck⟩ := own_caps Ok.out
              unfold maxLen at hck
              have d0 := (Ok.out.cellAt j (by omega)).trans (intsRow_at K j hlj)
              rw [hbe] at d0
              have Hbe := Lib.hid hbe
              clear hbe
              have j1 : (0 : Int) ≤ (j : Int) := Int.natCast_nonneg _
              have j2 : (j : Int) < (K.length : Int) := by omega
              by_cases he : b = q
              · have E := Lib.hid (nmAt_yes (L := L) HKd.out hlj (show intsAt K j = (q : Int) by rw [Hbe.out, he]))
                have t0 : ((b : Int) == (q : Int)) = true := by simp [he]
                have HE := Lib.hid he
                clear he
                go_wp2_with (at_builtin; refine wpList_append_sl _ rfl (.tmp 87) (.tmp 90) _ rfl wo.heap.size 9 i0 _ 1 16 Try.underlying46 hi hz0 hz1 hz2 rfl (by omega) _ ms.length (strsRow ms) rfl (Hm.out.alloc _) (some ⟨wr.heap.size, 0, none⟩) 1 1 [.string (promiseAt L q).name] rfl (Rd.of_block (cs := #[.string (promiseAt L q).name]) (heap_alloc_new _ _) rfl) (by intro x hx; simp at hx; subst hx; rfl) (by unfold maxLen; omega) (by omega) (by simp <;> omega) ?_; intro A7 c7 w7 ho7 hg7 hor7)
                have b7 : Below wo.heap.size wo w7 := (hbm.alloc hzw _).grown hg7 (by simp; omega) (fun p hp => (World.ownsRow.lt Hm.out p hp).1)
                have z7 := hg7.size
                rw [World.size_alloc] at z7
                have e7 : w7.cell? ⟨wx.heap.size, 0, none⟩ = some (.string (promiseAt L q).name) := (World.cell?_of_block (hg7.block wx.heap.size (by simp; omega) Hbx5.out)).trans ((World.cell?_alloc_lt _ _ _ (by show wx.heap.size < wr.heap.size; omega)).trans hem)
                have x7 : some wx.heap.size ≠ (Value.slice A7 (ms.length + 1) c7).ownBlock := by
                  rcases hor7 with e | e
                  · rw [e]; exact Hbx5.out
                  · rw [e, World.size_alloc]; intro h; injection h with h; omega
                have X7 := Lib.hid x7
                have O7 := Lib.hid ho7
                clear x7 ho7 hg7 hor7
                go_roundw
                case rel =>
                  refine ⟨j + 1, ms ++ [(promiseAt L q).name], A7, c7, by omega, by go_num, by rw [E.out, ← Hms.out], by rw [List.length_append]; rfl, ?_, b7, by omega, e7, ?_⟩
                  · rw [List.length_append, strsRow_append]; exact O7.out
                  · rw [List.length_append]; exact X7.out
                case measure => simp [intOf]; omega
              · have E := Lib.hid (nmAt_no (L := L) (q := q) hlj (by rw [Hbe.out]; omega))
                have t0 : ((b : Int) == (q : Int)) = false := by simp; omega
                have HE := Lib.hid he
                clear he
                go_wp2
                go_roundw
                case rel => exact ⟨j + 1, ms, Am, cm, by omega, by go_num, by rw [E.out, ← Hms.out], rfl, Hm.out, hbm, hzm, hem, Hbx5.out⟩
                case measure => simp [intOf]; omega
            · have hjK : j = K.length := by omega
              have E := Lib.hid (show ms = nmTo L K (q + 1) by rw [Hms.out, hjK, nmAt_all])
              clear hjK
              go_wp2
              go_roundw
              case rel => exact ⟨q + 1, ms, Am, cm, by omega, by go_num, E.out, rfl, Hm.out, hbm⟩
              case measure => simp [intOf]; omega
        · have hqq : q = L.length := by omega
          have E := Lib.hid (show ns = keptNm L by rw [Hns.out, hqq, HK.out]; rfl)
          clear hqq
          go_wp2
          go_ret
          have hbE := hb3.trans ((hb.trans (hbn.mono hsz)).mono hs3)
          refine ⟨_, rfl, ?_, hbE⟩
          rw [← E.out]
          exact own_base Hn.out (Nat.le_trans hs3 hsz)

end Go.Proofs.Ytgafjchbfbpmmaa
