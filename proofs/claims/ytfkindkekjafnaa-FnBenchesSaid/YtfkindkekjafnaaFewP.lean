/- The walk of FewestLate in the program. Printed by gen_best.py. -/
import Derived.Test.YtfkindkekjafnaaLateAt
namespace Go.Proofs.Ytfkindkekjafnaa
open Go.RowKit

set_option maxHeartbeats 8000000 in
theorem implFewestLate_any (w : World) (L : List Job) (v : Value) (hv : Sl w 3 v L.length (jobRow L)) (hf : jobFit L) (hn : L.length ≤ 4194304) :
    Calls Try.prog 43 #[v] w (RetIC (fewestLate L) w) := by
  have Hv := Lib.hid hv
  have Hf := Lib.hid hf
  clear hf
  cases h1 : areJobs L
  · have H := Lib.hid (show fewestLate L = (0, 1) by simp [fewestLate, h1])
    clear hv
    go_enter Try.func43, Try.ntmps43
    go_wp2_with fail
    refine (implAreJobs_any w L v Hv.out Hf.out hn).mono ?_
    rintro e w2 ⟨rfl, hb2⟩
    rw [h1]
    go_wp2
    go_ret2
    exact RetIC.ok H.out hb2
  · have h7 := areJobs_le h1
    have H := Lib.hid (show fewestLate L = (leastM L.length (stCnt L) 0, 0) by simp [fewestLate, h1])
    obtain ⟨N, hN⟩ : ∃ N, N = 2 ^ L.length := ⟨_, rfl⟩
    have hN1 : 1 ≤ N := by rw [hN]; exact Nat.two_pow_pos _
    have hN9 : N ≤ 128 := by rw [hN]; exact Nat.pow_le_pow_right (show 2 > 0 by omega) h7
    have p1 : wrap64 ((2 : Int) ^ L.length) = (N : Int) := by rw [wrap_pow (by omega), hN]
    have p2 := IntWalk.i64_in ((N : Int) - 1) (by omega)
    have p3 : (N : Int) - 1 + 1 = (N : Int) := by omega
    have p4 := IntWalk.i64_in (N : Int) (by omega)
    have p5 : (N : Int) - 1 - 1 = (N : Int) - 2 := by omega
    have p6 := IntWalk.i64_in ((N : Int) - 2) (by omega)
    have HNe := Lib.hid hN
    obtain ⟨i0, hi, hz0, hz1, hz2⟩ := info_parts Try.info_ints
    obtain ⟨A, c, rfl, hl, hc, _⟩ := Hv.out
    unfold maxLen at hc
    clear hN hl
    go_enter Try.func43, Try.ntmps43
    go_wp2_with fail
    refine (implAreJobs_any w L _ Hv.out Hf.out hn).mono ?_
    rintro e w2 ⟨rfl, hb2⟩
    rw [h1]
    have hsz2 := hb2.size
    have Hv2 := Lib.hid (Hv.out.below hb2)
    go_wp2_with (at_make; (try rw [p1]); (refine wpList_make_full _ rfl _ _ 38 rfl w2.heap.size 2 i0 _ 1 Try.underlying38 hi hz0 hz1 _ _ _ _ N rfl rfl rfl rfl ?b1 ?b2 ?b3 ?_))
    case b1 => rw [hz2]; omega
    case b2 => unfold maxLen; omega
    case b3 => exact Nat.le_refl _
    intro w3 hown hgr
    have hb3 := (Below.refl w2.heap.size w2).grown hgr (Nat.le_refl _) (fun _ h => by cases h)
    have hsz3 := hb3.size
    have hz : (madeCells #[Value.int .i64 0] N).toList = intsRow (List.replicate N 0) := by
      rw [toList_madeCells_one]; simp [intsRow]
    have Ho3 := Lib.hid (show w3.ownsRow w2.heap.size 2 1 (.slice (some ⟨w2.heap.size, 0, none⟩) N N) N (intsRow (List.replicate N 0)) by rw [← hz]; exact hown)
    have Hb3 := Lib.hid hb3
    clear hown hgr hz hb3
    go_wp2
    go_loopw [6] (fun i wr => ∃ (lo : Nat) (z : Int) (D : List Int), i = .int .i64 z ∧ z = (lo : Int) - 1 ∧ lo ≤ N - 1 ∧ TabOk L.length (stCnt L) lo D ∧ wr.ownsRow w2.heap.size 2 1 (.slice (some ⟨w2.heap.size, 0, none⟩) N N) N (intsRow D) ∧ Below w2.heap.size w2 wr) (fun i _ => (intOf i + 1).toNat)
    case atStart => exact ⟨N - 1, _, List.replicate N 0, rfl, by omega, Nat.le_refl _, by rw [HNe.out]; exact TabOk.start, Ho3.out, Hb3.out⟩
    case round =>
      clear Ho3 Hb3
      obtain ⟨lo, z, D, rfl, hz, hlo, htab, ho, hb⟩ := hrel
      have Ho := Lib.hid ho
      have Hb := Lib.hid hb
      have Ht := Lib.hid htab
      have hsz := hb.size
      clear ho hb htab
      obtain ⟨wo, rfl⟩ : ∃ wo : World, wo = wr := ⟨_, rfl⟩
      by_cases hl0 : 0 < lo
      · obtain ⟨d, rfl⟩ : ∃ d, lo = d + 1 := ⟨lo - 1, by omega⟩
        have ez : z = (d : Int) := by omega
        subst ez
        clear hz
        have hd1 : d < 2 ^ L.length - 1 := by rw [← HNe.out]; omega
        have hdN : d < N := by omega
        have hDl : D.length = N := by rw [Ht.out.1, HNe.out]
        have HDl := Lib.hid hDl
        have d0 : (0 : Int) ≤ (d : Int) := Int.natCast_nonneg _
        have d1 : (d : Int) < (N : Int) := by omega
        have HBD := Lib.hid (fun k => bestK_bd (n := L.length) (st := stCnt L) (B := 1) (fun m i => (stCnt_bd L m i).1) (fun m i => (stCnt_bd L m i).2) d k)
        have HNN := Lib.hid (fun m => (show 0 ≤ leastM L.length (stCnt L) m ∧ leastM L.length (stCnt L) m ≤ (L.length : Int) * 1 from ⟨leastM_nn (fun m i => (stCnt_bd L m i).1) m, leastM_le (fun m i => (stCnt_bd L m i).1) (fun m i => (stCnt_bd L m i).2) m⟩))
        clear hDl
        go_wp2
        go_loopw [7, 28] (fun b k wr => ∃ (q : Nat) (x : Int), q ≤ L.length ∧ k = .int .i64 q ∧ b = .int .i64 x ∧ x = (bestK d (way (stCnt L) (leastM L.length (stCnt L)) d) q).2 ∧ wr.ownsRow w2.heap.size 2 1 (.slice (some ⟨w2.heap.size, 0, none⟩) N N) N (intsRow D) ∧ Below w2.heap.size w2 wr) (fun _ k _ => L.length - (intOf k).toNat)
        case atStart => exact ⟨0, -1, Nat.zero_le _, rfl, rfl, rfl, Ho.out, Hb.out⟩
        case round =>
          clear Ho Hb
          obtain ⟨q, x, hq, rfl, rfl, hx, ho, hb⟩ := hrel
          have hxb := HBD.out q
          rw [← hx] at hxb
          have HX := Lib.hid hx
          have Ho := Lib.hid ho
          have Hb := Lib.hid hb
          have hszr := hb.size
          clear hx ho hb
          by_cases hql : q < L.length
          · have i0 : (0 : Int) ≤ (q : Int) := Int.natCast_nonneg _
            have i1 : (q : Int) < (L.length : Int) := by omega
            have i2 : (q : Int) < 64 := by omega
            cases hbit : d.testBit q
            · have t1 := mask_free (m := d) (b := q) (by omega) (by omega) hbit
              have o1 := mask_or (m := d) (b := q) (by omega) (by omega)
              have o2 := mask_joinW (m := d) (b := q) (by omega) (by omega)
              have hJl : d ||| 2 ^ q < N := by rw [HNe.out]; exact or_lt (by rw [← HNe.out]; exact hdN) hql
              obtain ⟨y, hy⟩ : ∃ y, y = leastM L.length (stCnt L) (d ||| 2 ^ q) := ⟨_, rfl⟩
              have hyb := HNN.out (d ||| 2 ^ q)
              rw [← hy] at hyb
              have e2 := (Ho.out.cellAt (d ||| 2 ^ q) (by omega)).trans (intsRow_at D (d ||| 2 ^ q) (by rw [HDl.out]; exact hJl))
              rw [Ht.out.at_ (by rw [← HNe.out]; exact hdN) hql hbit, ← hy] at e2
              have HW : Hid (way (stCnt L) (leastM L.length (stCnt L)) d q = stCnt L d q + y) := Lib.hid (by rw [way, hy])
              clear hy
              obtain ⟨G, hG⟩ : ∃ G, G = d ||| 2 ^ q := ⟨_, rfl⟩
              rw [← hG] at o1 o2 hJl e2
              have HG := Lib.hid hG
              have j0 : (0 : Int) ≤ (G : Int) := Int.natCast_nonneg _
              have j1 : (G : Int) < (N : Int) := by omega
              clear hG
              go_wp2_with fail
              refine (implLateAt_any _ L _ G q ((Hv2.out.below Hb.out)) h1 (by omega) hql).mono ?_
              rintro e w5 ⟨rfl, hb5⟩
              have Ho5 := Lib.hid (own_below Ho.out hb5)
              have Hb5 := Lib.hid (Hb.out.trans (hb5.mono Hb.out.size))
              clear hb5
              by_cases hp : 0 < lateM L G q
              · have s0 : decide (0 < lateM L G q) = true := by simpa using hp
                have HC : Hid (stCnt L d q = 1) := Lib.hid (by rw [stCnt, ← HG.out, if_pos hp])
                have x1 := IntWalk.i64_in (y + 1) (by omega)
                have x2 : Hid (1 + y = y + 1) := Lib.hid (by omega)
                by_cases hx0 : x < 0
                · skip
                  have s1 : decide (x < 0) = true := by simpa using hx0
                  have HS := Lib.hid (show (bestK d (way (stCnt L) (leastM L.length (stCnt L)) d) (q + 1)).2 = y + 1 by rw [bestK, hbit, if_neg (by simp), HW.out, ← HX.out, HC.out, x2.out, if_pos (by omega)])
                  go_wp2
                  go_roundw
                  case rel => exact ⟨q + 1, y + 1, by omega, by go_num, rfl, HS.out.symm, Ho5.out, Hb5.out⟩
                  case measure => simp [intOf]; omega
                · skip
                  have s1 : decide (x < 0) = false := by simpa using hx0
                  by_cases hx1 : y + 1 < x
                  · skip
                    have s2 : decide (y + 1 < x) = true := by simpa using hx1
                    have HS := Lib.hid (show (bestK d (way (stCnt L) (leastM L.length (stCnt L)) d) (q + 1)).2 = y + 1 by rw [bestK, hbit, if_neg (by simp), HW.out, ← HX.out, HC.out, x2.out, if_pos (by omega)])
                    go_wp2
                    go_roundw
                    case rel => exact ⟨q + 1, y + 1, by omega, by go_num, rfl, HS.out.symm, Ho5.out, Hb5.out⟩
                    case measure => simp [intOf]; omega
                  · skip
                    have s2 : decide (y + 1 < x) = false := by simpa using hx1
                    have HS := Lib.hid (show (bestK d (way (stCnt L) (leastM L.length (stCnt L)) d) (q + 1)).2 = x by rw [bestK, hbit, if_neg (by simp), HW.out, ← HX.out, HC.out, x2.out, if_neg (by omega)]; exact HX.out.symm)
                    go_wp2
                    go_roundw
                    case rel => exact ⟨q + 1, x, by omega, by go_num, rfl, HS.out.symm, Ho5.out, Hb5.out⟩
                    case measure => simp [intOf]; omega
              · have s0 : decide (0 < lateM L G q) = false := by simpa using hp
                have HC : Hid (stCnt L d q = 0) := Lib.hid (by rw [stCnt, ← HG.out, if_neg hp])
                have x2 : Hid (0 + y = y) := Lib.hid (by omega)
                by_cases hx0 : x < 0
                · skip
                  have s1 : decide (x < 0) = true := by simpa using hx0
                  have HS := Lib.hid (show (bestK d (way (stCnt L) (leastM L.length (stCnt L)) d) (q + 1)).2 = y by rw [bestK, hbit, if_neg (by simp), HW.out, ← HX.out, HC.out, x2.out, if_pos (by omega)])
                  go_wp2
                  go_roundw
                  case rel => exact ⟨q + 1, y, by omega, by go_num, rfl, HS.out.symm, Ho5.out, Hb5.out⟩
                  case measure => simp [intOf]; omega
                · skip
                  have s1 : decide (x < 0) = false := by simpa using hx0
                  by_cases hx1 : y < x
                  · skip
                    have s2 : decide (y < x) = true := by simpa using hx1
                    have HS := Lib.hid (show (bestK d (way (stCnt L) (leastM L.length (stCnt L)) d) (q + 1)).2 = y by rw [bestK, hbit, if_neg (by simp), HW.out, ← HX.out, HC.out, x2.out, if_pos (by omega)])
                    go_wp2
                    go_roundw
                    case rel => exact ⟨q + 1, y, by omega, by go_num, rfl, HS.out.symm, Ho5.out, Hb5.out⟩
                    case measure => simp [intOf]; omega
                  · skip
                    have s2 : decide (y < x) = false := by simpa using hx1
                    have HS := Lib.hid (show (bestK d (way (stCnt L) (leastM L.length (stCnt L)) d) (q + 1)).2 = x by rw [bestK, hbit, if_neg (by simp), HW.out, ← HX.out, HC.out, x2.out, if_neg (by omega)]; exact HX.out.symm)
                    go_wp2
                    go_roundw
                    case rel => exact ⟨q + 1, x, by omega, by go_num, rfl, HS.out.symm, Ho5.out, Hb5.out⟩
                    case measure => simp [intOf]; omega
            · have t1 := mask_held (m := d) (b := q) (by omega) (by omega) hbit
              have HS := Lib.hid (show (bestK d (way (stCnt L) (leastM L.length (stCnt L)) d) (q + 1)).2 = x by rw [bestK, hbit, if_pos rfl, HX.out])
              go_wp2
              go_roundw
              case rel => exact ⟨q + 1, x, by omega, by go_num, rfl, HS.out.symm, Ho.out, Hb.out⟩
              case measure => simp [intOf]; omega
          · have hqe : q = L.length := by omega
            subst hqe
            have f1 := Ho.out.frozenAt d
            obtain ⟨cx, e1⟩ := own_cell Ho.out (j := d) (by omega)
            have hst := Lib.hid (Ho.out.stored d (.int .i64 x)).1
            have Ht2 := Lib.hid (Ht.out.step hd1)
            rw [← HX.out] at Ht2
            have Hb2 := Lib.hid (Hb.out.setCell (p := ⟨w2.heap.size, d, none⟩) (Nat.le_refl _) (.int .i64 x))
            have q1 := IntWalk.i64_in ((d : Int) - 1) (by omega)
            go_wp2
            go_roundw
            case rel => exact ⟨d, _, D.set d x, rfl, rfl, by omega, Ht2.out, by rw [← intsRow_set]; exact hst.out, Hb2.out⟩
            case measure => simp [intOf]
      · have hl9 : lo = 0 := by omega
        subst hl9
        have ez : z = -1 := by omega
        subst ez
        have hDl : D.length = N := by rw [Ht.out.1, HNe.out]
        have e0 := (Ho.out.cellAt 0 (by omega)).trans (intsRow_at D 0 (by omega))
        rw [Ht.out.2 0 (Nat.zero_le _) (Nat.two_pow_pos _)] at e0
        clear hz hl0 hlo
        have b5 := hb2.trans (Hb.out.mono hsz2)
        have c0 : (0 : Int) < (N : Int) := by omega
        go_wp2
        go_ret2
        exact RetIC.ok H.out b5

end Go.Proofs.Ytfkindkekjafnaa
