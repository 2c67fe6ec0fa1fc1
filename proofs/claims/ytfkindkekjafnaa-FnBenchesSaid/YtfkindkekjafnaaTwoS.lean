/- The walk of TwoBenches in the reference. -/
import Derived.Test.YtfkindkekjafnaaTwo
namespace Go.Proofs.Ytfkindkekjafnaa
open Go.RowKit


set_option maxHeartbeats 2000000 in
theorem specTwoBenches_any (w : World) (L : List Job) (v : Value) (hv : Sl w 3 v L.length (jobRow L)) (hf : jobFit L) (hn : L.length ≤ 4194304) :
    Calls Try.prog 44 #[v] w (RetSIC w.heap.size 2 1 intsRow (twoF L) w) := by
  have Hv := Lib.hid hv
  have Hf := Lib.hid hf
  clear hf
  cases h1 : areJobs L
  · clear hv
    have H := Lib.hid (show twoF L = ([], 0, 1) by simp [twoF, h1])
    go_enter Try.func44, Try.ntmps44
    go_wp2_with fail
    refine (specAreJobs_any w L v Hv.out Hf.out hn).mono ?_
    rintro e w2 ⟨rfl, hb2⟩
    rw [h1]
    go_wp2
    go_ret3
    exact RetSIC.err H.out rfl hb2
  · have h7 := areJobs_le h1
    obtain ⟨i0, hi, hz0, hz1, hz2⟩ := info_parts Try.info_ints
    have H := Lib.hid (show twoF L = (bitsN L.length (bestN L (2 ^ L.length)).1 L.length, (bestN L (2 ^ L.length)).2, 0) by simp [twoF, h1])
    obtain ⟨A, c, rfl, hl, hc, hr⟩ := hv
    have Hr := Lib.hid hr
    clear hr hl hc
    obtain ⟨N, hN⟩ : ∃ N, N = 2 ^ L.length := ⟨_, rfl⟩
    have hN7 : N ≤ 128 := by rw [hN]; exact Nat.pow_le_pow_right (show 2 > 0 by omega) h7
    have hN1 : 1 ≤ N := by rw [hN]; exact Nat.one_le_two_pow
    rw [← hN] at H
    have hsh : (2 : Int) ^ L.length = (N : Int) := by rw [hN]; simp
    have HN := Lib.hid hN
    clear hN
    go_enter Try.func44, Try.ntmps44
    go_wp2_with fail
    refine (specAreJobs_any w L _ Hv.out Hf.out hn).mono ?_
    rintro e w2 ⟨rfl, hb2⟩
    rw [h1]
    have hsz0 := hb2.size
    go_wp2
    go_loopw [6, 7, 8] (fun b l i wr => ∃ (c : Nat) (bl : List Int) (Ab : Option Addr) (cb : Nat), c ≤ N ∧ i = .int .i64 c ∧ l = .int .i64 (bestN L c).2 ∧ b = .slice Ab bl.length cb ∧ (0 < c → bl = bitsN L.length (bestN L c).1 L.length) ∧
        wr.ownsRow w.heap.size 2 1 (.slice Ab bl.length cb) bl.length (intsRow bl) ∧ Below w.heap.size w wr) (fun _ _ i _ => N - (intOf i).toNat)
    case atStart => exact ⟨0, [], _, _, Nat.zero_le _, rfl, rfl, rfl, fun h => absurd h (by omega), own_empty _ _ _ hsz0, hb2.alloc hsz0 _⟩
    case round =>
      obtain ⟨c, bl, Ab, cb, hc, rfl, rfl, rfl, hbl, ho, hb⟩ := hrel
      have Hbl := Lib.hid hbl
      have Hob := Lib.hid ho
      clear hbl ho
      have hsz := hb.size
      by_cases hlt : c < N
      · rename World => wo
        go_wp2
        go_loopw [9, 11] (fun s i wr => ∃ (k : Nat) (s0 s1 : Int) (Ao : Option Addr) (co : Nat), k ≤ L.length ∧ i = .int .i64 k ∧ s = .slice Ao k co ∧ s0 = sumsN L c 0 k ∧ s1 = sumsN L c 1 k ∧ Blk wr (wo.heap.size + 1) 2 #[.int .i64 s0, .int .i64 s1] ∧
            (Value.slice Ao k co).ownBlock ≠ some (wo.heap.size + 1) ∧ wr.ownsRow wo.heap.size 2 1 (.slice Ao k co) k (intsRow (bitsN L.length c k)) ∧ Below wo.heap.size wo wr) (fun _ i _ => L.length - (intOf i).toNat)
        case atStart => exact ⟨0, 0, 0, some ⟨wo.heap.size, 0, none⟩, 0, Nat.zero_le _, rfl, rfl, rfl, rfl, heap_alloc2_new wo _ _, by simp [Value.ownBlock], (own_empty _ _ _ (Nat.le_refl _)).alloc _, ((Below.refl _ _).alloc (Nat.le_refl _) _).alloc (by simp) _⟩
        case round =>
          obtain ⟨k, s0, s1, Ao, co, hk, rfl, rfl, hs0, hs1, hB, hne, ho, hb2⟩ := hrel
          have hsz2 := hb2.size
          have b0 := sumsN_bd h1 c 0 k hk
          have b1 := sumsN_bd h1 c 1 k hk
          rw [← hs0] at b0
          rw [← hs1] at b1
          have S0 := Lib.hid hs0
          have S1 := Lib.hid hs1
          have Ho := Lib.hid ho
          have Hne := Lib.hid hne
          clear hs0 hs1 ho hne
          have hBl := hB.lt
          have hbw := hb.trans (hb2.mono hsz)
          have HB := Lib.hid hB
          clear hB
          by_cases hlt2 : k < L.length
          · have hj := areJobs_at h1 hlt2
            have i0' : (0 : Int) ≤ (k : Int) := Int.natCast_nonneg _
            have i1 : (k : Int) < (L.length : Int) := by omega
            obtain ⟨y, hy⟩ : ∃ y : Nat, y = L.length - 1 - k := ⟨_, rfl⟩
            have f1 : (L.length : Int) - 1 - (k : Int) = (y : Int) := by omega
            have f2 : IntKind.i64.wrap ((L.length : Int) - 1) = (L.length : Int) - 1 := by rw [IntKind.wrap_i64]; omega
            have f3 : IntKind.i64.wrap (y : Int) = (y : Int) := by rw [IntKind.wrap_i64]; omega
            obtain ⟨q, hq⟩ : ∃ q : Nat, q = c / 2 ^ y := ⟨_, rfl⟩
            have f4 : (c : Int) / 2 ^ y = (q : Int) := by rw [hq]; simp
            have hqc : q ≤ c := by rw [hq]; exact Nat.div_le_self _ _
            have hbit : bitN L.length c k = q % 2 := by rw [hq, hy]; rfl
            obtain ⟨r, hr⟩ : ∃ r, r = q % 2 := ⟨_, rfl⟩
            have f5 := and_one q (by omega)
            have hr2 : r = 0 ∨ r = 1 := by omega
            rw [← hr] at f5 hbit
            have Hbit := Lib.hid hbit
            clear hq hy hbit hr
            go_wp2_with (at_builtin; (refine wpList_append_sl _ rfl (.tmp 41) (.tmp 43) _ rfl wo.heap.size 2 i0 _ 1 8 Try.underlying38 hi hz0 hz1 hz2 rfl (by omega) _ k (intsRow (bitsN L.length c k)) rfl (Ho.out.alloc _) (some ⟨wr.heap.size, 0, none⟩) 1 1 [.int .i64 (r : Int)] rfl (Rd.of_block (cs := #[.int .i64 (r : Int)]) (heap_alloc_new _ _) rfl) (by intro x hx; simp at hx; subst hx; rfl) (by unfold maxLen; omega) (by omega) (by simp; omega) ?_; intro A9 c9 w9 ho9 hg9 hor9))
            have b9 : Below wo.heap.size wo w9 := (hb2.alloc hsz2 _).grown hg9 (by simp; omega) (fun q hq => (World.ownsRow.lt Ho.out q hq).1)
            have bw9 := hb.trans (b9.mono hsz)
            have hB9 : Blk w9 (wo.heap.size + 1) 2 #[.int .i64 s0, .int .i64 s1] := (HB.out.alloc _).grown hg9 (fun h => Hne.out h.symm)
            have hne9 : (Value.slice A9 (k + 1) c9).ownBlock ≠ some (wo.heap.size + 1) := by
              rcases hor9 with h | h
              · rw [h]; exact Hne.out
              · rw [h]; simp; omega
            have Hne9 := Lib.hid hne9
            have Ho9 := Lib.hid (show w9.ownsRow wo.heap.size 2 1 (.slice A9 (k + 1) c9) (k + 1) (intsRow (bitsN L.length c (k + 1))) by rw [bitsN_succ, intsRow_append, Hbit.out]; exact ho9)
            have HB9 := Lib.hid hB9
            clear ho9 hg9 hor9 hne9
            obtain ⟨g, o, rfl, hg, e0, e1, e2⟩ := (Hr.out.below bw9 (Nat.le_refl _)).job hlt2
            have c0 := hB9.cell 0
            have c1 := hB9.cell 1
            have z0 := hB9.frozen 0
            have z1 := hB9.frozen 1
            clear hB9
            rcases hr2 with rfl | rfl
            · go_region
              all_goals
                go_wp2
                go_roundw
                case rel => exact ⟨k + 1, s0 + (jobAt L k).min, s1, A9, c9, by omega, by go_num, rfl, by simp only [sumsN]; rw [Hbit.out, ← S0.out]; simp, by simp only [sumsN]; rw [Hbit.out, ← S1.out]; simp, (HB9.out.set 0 _).drew, Hne9.out, (own_far Ho9.out Hne9.out _).drew, (b9.setCell (show wo.heap.size ≤ wo.heap.size + 1 by omega) _).drew⟩
                case measure => simp [intOf]; omega
            · go_region
              all_goals
                go_wp2
                go_roundw
                case rel => exact ⟨k + 1, s0, s1 + (jobAt L k).min, A9, c9, by omega, by go_num, rfl, by simp only [sumsN]; rw [Hbit.out, ← S0.out]; simp, by simp only [sumsN]; rw [Hbit.out, ← S1.out]; simp, (HB9.out.set 1 _).drew, Hne9.out, (own_far Ho9.out Hne9.out _).drew, (b9.setCell (show wo.heap.size ≤ wo.heap.size + 1 by omega) _).drew⟩
                case measure => simp [intOf]; omega
          · have e0 : s0 = sumsN L c 0 L.length := by rw [S0.out, show k = L.length by omega]
            have e1 : s1 = sumsN L c 1 L.length := by rw [S1.out, show k = L.length by omega]
            have E0 := Lib.hid (show benchN L c = max s0 s1 by rw [benchN, e0, e1])
            have hB := HB.out
            have c0 := hB.cell 0
            have c1 := hB.cell 1
            clear e0 e1 hB
            have Hk := Lib.hid (show k = L.length by omega)
            obtain ⟨m, hm, hM⟩ : ∃ m, (if s0 < s1 then s1 else s0) = m ∧ m = max s0 s1 := ⟨_, rfl, by split <;> omega⟩
            have hm0 : 0 ≤ m ∧ m ≤ 7000 := by omega
            rw [← hM] at E0
            clear hM
            obtain ⟨lt, hlt'⟩ : ∃ lt, lt = (bestN L c).2 := ⟨_, rfl⟩
            rw [← hlt']
            by_cases hu : lt < 0 ∨ m < lt
            · have U := Lib.hid (show bestN L (c + 1) = (c, m) by rw [bestN, E0.out, ← hlt', if_pos hu])
              clear hlt' E0
              by_cases hu1 : lt < 0
              · have t1 : decide (lt < 0) = true := by simp [hu1]
                clear hu hu1
                go_wp2
                go_quiet (fail)
                go_wp2
                go_quiet (fail)
                go_wp2
                go_roundw
                case rel => exact ⟨c + 1, bitsN L.length c L.length, Ao, co, by omega, by go_num, valI (by rw [U.out]), by rw [bitsN_len, Hk.out], fun _ => by rw [U.out], by rw [bitsN_len]; have := own_base Ho.out hsz; rw [Hk.out] at this; exact this, below_drewN hbw _⟩
                case measure => simp [intOf]; omega
              · have hu2 : m < lt := by omega
                have t1 : decide (lt < 0) = false := decide_eq_false hu1
                have t2 : decide (m < lt) = true := by simp [hu2]
                clear hu hu1 hu2
                go_wp2
                go_quiet (fail)
                go_wp2
                go_quiet (fail)
                go_wp2
                go_roundw
                case rel => exact ⟨c + 1, bitsN L.length c L.length, Ao, co, by omega, by go_num, valI (by rw [U.out]), by rw [bitsN_len, Hk.out], fun _ => by rw [U.out], by rw [bitsN_len]; have := own_base Ho.out hsz; rw [Hk.out] at this; exact this, below_drewN hbw _⟩
                case measure => simp [intOf]; omega
            · have Hc0 := Lib.hid (show 0 < c by
                rcases Nat.eq_zero_or_pos c with h0 | h0
                · subst h0; exact absurd (.inl (by rw [hlt']; simp [bestN])) hu
                · exact h0)
              have U := Lib.hid (show bestN L (c + 1) = bestN L c by rw [bestN, E0.out, ← hlt', if_neg hu])
              have t1 : decide (lt < 0) = false := by simp; omega
              have t2 : decide (m < lt) = false := by simp; omega
              have LT := Lib.hid hlt'
              clear hlt' hu E0
              go_wp2
              go_quiet (fail)
              go_wp2
              go_roundw
              case rel => exact ⟨c + 1, bl, Ab, cb, by omega, by go_num, by rw [U.out, LT.out], rfl, fun _ => by rw [U.out]; exact Hbl.out Hc0.out, own_below Hob.out (below_drewN hb2 _), below_drewN hbw _⟩
              case measure => simp [intOf]; omega
      · have hcN : c = N := by omega
        subst hcN
        go_wp2
        go_ret3
        exact RetSIC.ok H.out Hob.out (by rw [Hbl.out hN1]) (by rw [Hbl.out hN1]) (Nat.le_refl _) hb
end Go.Proofs.Ytfkindkekjafnaa
