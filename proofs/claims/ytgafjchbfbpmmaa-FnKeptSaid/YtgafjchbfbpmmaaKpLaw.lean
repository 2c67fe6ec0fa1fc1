/- FnKept, for every input: promises that are kept together can be kept, and all are if they can be. Its conditions: none. -/
import Derived.Test.YtgafjchbfbpmmaaKpM
import Derived.Test.YtgafjchbfbpmmaaKeptN
import Derived.Test.YtgafjchbfbpmmaaLikeP
import Derived.Test.YtgafjchbfbpmmaaLikeT
import Derived.Test.YtgafjchbfbpmmaaDrawQ
namespace Go.Proofs.Ytgafjchbfbpmmaa
open Go.ChangeShapes Go.WideShapes Go.ChangeAt Go.RowKit Go.Deep

theorem fit_sub {M L : List Promise} (h : M.Sublist L) (hL : promiseFit L) : promiseFit M := by
  intro i hi
  have hm : promiseAt M i ∈ L := h.mem (by rw [promiseAt_lt hi]; exact List.getElem_mem hi)
  obtain ⟨q, hq, e⟩ := promiseAt_mem hm
  rw [← e]; exact hL q hq
theorem some_snoc (L : List Promise) (N : List ByteArray) {k : Nat} (h : k < L.length) : someOf (L.take (k + 1)) N = if hasNm N (promiseAt L k).name = true then someOf (L.take k) N ++ [promiseAt L k] else someOf (L.take k) N := by
  unfold someOf
  rw [prom_snoc L h, List.filter_append]
  split
  · rename_i h1; simp [h1]
  · rename_i h1; simp [h1]
theorem hasNm_no {N : List ByteArray} {s : ByteArray} (h : ∀ j, j < N.length → strsAt N j ≠ s) : hasNm N s = false := by
  cases e : hasNm N s
  · rfl
  · rw [hasNm_iff] at e
    obtain ⟨j, hj, he⟩ := List.mem_iff_getElem.1 e
    exact absurd (by rw [strsAt_lt hj]; exact he) (h j hj)

set_option maxHeartbeats 1600000 in
theorem hasText_any (w : World) (l : List ByteArray) (u : Value) (s : ByteArray) (hu : Sl w 1 u l.length (strsRow l)) (hn : l.length ≤ 4194304) :
    Calls Try.prog 54 #[u, .string s] w (RetB (hasNm l s) w) := by
  obtain ⟨A, c, rfl, hl, hc, hr⟩ := hu
  have Hr := Lib.hid hr
  unfold maxLen at hc
  clear hr
  go_enter Try.func54, Try.ntmps54
  go_wp2
  go_loopw [5] (fun i wr => ∃ k : Nat, k ≤ l.length ∧ i = .int .i64 k ∧ (∀ j, j < k → strsAt l j ≠ s) ∧ Below w.heap.size w wr) (fun i _ => l.length - (intOf i).toNat)
  case atStart => exact ⟨0, Nat.zero_le _, rfl, fun j hj => by omega, Below.refl _ _⟩
  case round =>
    obtain ⟨k, hk, rfl, hall, hb⟩ := hrel
    have Hall := Lib.hid hall
    clear hall
    by_cases hlt : k < l.length
    · obtain ⟨g, o, rfl, hg, c0⟩ := (Hr.out.below hb (Nat.le_refl _)).strs hlt
      have i0 : (0 : Int) ≤ (k : Int) := Int.natCast_nonneg _
      have i1 : (k : Int) < (l.length : Int) := by omega
      by_cases he : strsAt l k = s
      · have E := Lib.hid (show hasNm l s = true by rw [hasNm_iff, ← he, strsAt_lt hlt]; exact List.getElem_mem hlt)
        have t0 := beq_str_of he
        clear he
        go_wp2
        go_ret
        exact ⟨retB E.out.symm, hb⟩
      · have E := Lib.hid (show ∀ j, j < k + 1 → strsAt l j ≠ s from fun j hj => by
          by_cases e : j = k
          · rw [e]; exact he
          · exact Hall.out j (by omega))
        have t0 := beq_str_ne he
        clear he
        go_wp2
        go_roundw
        case rel => exact ⟨k + 1, by omega, by go_num, E.out, hb⟩
        case measure => simp [intOf]; omega
    · have E := Lib.hid (hasNm_no (s := s) (N := l) (fun j hj => Hall.out j (by omega)))
      go_wp2
      go_ret
      exact ⟨retB E.out.symm, hb⟩

set_option maxHeartbeats 16000000 in
set_option maxRecDepth 100000 in
theorem lawKept_walk (w : World) (A : Option Addr) (n c : Nat) (hcode : Code w A n) (hc : n ≤ c ∧ c ≤ maxLen) :
    Calls Try.prog 13 #[.slice A n c] w fun e w' => e = .returned (.bool true) ∧ Below w.heap.size w w' := by
  by_cases hbig : 4096 < (n : Int)
  · have t0 : decide (4096 < (n : Int)) = true := by simpa using hbig
    go_enter Try.func13, Try.ntmps13
    go_wp2_with fail
    refine (big_any w A n c hc.1 hc.2).mono ?_
    rintro e w1 ⟨rfl, rfl⟩
    rw [t0]
    go_wp2
    go_ret
    exact ⟨rfl, Below.refl _ _⟩
  · have t0 : decide (4096 < (n : Int)) = false := by simpa using hbig
    have hn : n ≤ 4096 := by omega
    have Hcode := Lib.hid hcode
    have Hc := Lib.hid hc
    clear hcode hc hbig
    go_enter Try.func13, Try.ntmps13
    go_wp2_with fail
    refine (big_any w A n c Hc.out.1 Hc.out.2).mono ?_
    rintro e w1 ⟨rfl, rfl⟩
    rw [t0]
    clear t0
    go_wp2_with fail
    refine (drawKept_any w A n c Hcode.out hn Hc.out).mono ?_
    rintro e w1 ⟨L, v, rfl, ho, hf, hl, hb1⟩
    have b1 := hb1
    obtain ⟨Av, cv, rfl, ha, hcv⟩ := own_slice ho
    have V := Lib.hid (Sl.of_own ho)
    have F := Lib.hid hf
    have N : L.length ≤ 4194304 := by omega
    clear ho hf ha hcv
    go_wp2_with fail
    refine (implKeptNames_any w1 L _ V.out F.out N).mono ?_
    rintro e w2 ⟨yni, rfl, ho, hb2⟩
    have b2 := b1.trans (hb2.mono b1.size)
    obtain ⟨An, cn, rfl, han, hcn⟩ := own_slice ho
    have Yni := Lib.hid (Sl.of_own ho)
    clear ho
    go_wp2_with fail
    refine (specKeptNames_any w2 L _ (V.out.below hb2) F.out N).mono ?_
    rintro e w3 ⟨yns, rfl, ho, hb3⟩
    have b3 := b2.trans (hb3.mono b2.size)
    have Yns := Lib.hid (Sl.of_own ho)
    clear ho
    go_wp2_with fail
    refine (implMostKept_any w3 L _ ((V.out.below hb2).below hb3) F.out N).mono ?_
    rintro e w4 ⟨rfl, hb4⟩
    have b4 := b3.trans (hb4.mono b3.size)
    go_wp2_with fail
    refine (specMostKept_any w4 L _ (((V.out.below hb2).below hb3).below hb4) F.out N).mono ?_
    rintro e w5 ⟨rfl, hb5⟩
    have b5 := b4.trans (hb5.mono b4.size)
    go_wp2_with fail
    refine (implCanKeep_any w5 L _ ((((V.out.below hb2).below hb3).below hb4).below hb5) F.out N).mono ?_
    rintro e w6 ⟨rfl, hb6⟩
    have b6 := b5.trans (hb6.mono b5.size)
    go_wp2_with fail
    refine (specCanKeep_any w6 L _ (((((V.out.below hb2).below hb3).below hb4).below hb5).below hb6) F.out N).mono ?_
    rintro e w7 ⟨rfl, hb7⟩
    have b7 := b6.trans (hb7.mono b6.size)
    go_wp2_with fail
    refine (implFirstBreach_any w7 L _ ((((((V.out.below hb2).below hb3).below hb4).below hb5).below hb6).below hb7) F.out N).mono ?_
    rintro e w8 ⟨rfl, hb8⟩
    have b8 := b7.trans (hb8.mono b7.size)
    go_wp2_with fail
    refine (specFirstBreach_any w8 L _ (((((((V.out.below hb2).below hb3).below hb4).below hb5).below hb6).below hb7).below hb8) F.out N).mono ?_
    rintro e w9 ⟨rfl, hb9⟩
    have b9 := b8.trans (hb9.mono b8.size)
    go_wp2_with fail
    refine (implWorkPlan_any w9 L _ ((((((((V.out.below hb2).below hb3).below hb4).below hb5).below hb6).below hb7).below hb8).below hb9) F.out N).mono ?_
    rintro e w10 ⟨yoi, ydi, rfl, ho, hd, hne, hb10⟩
    have b10 := b9.trans (hb10.mono b9.size)
    obtain ⟨Ao, co, rfl, hao, hco⟩ := own_slice ho
    obtain ⟨Ad, cd, rfl, had, hcd⟩ := own_slice hd
    have Yoi := Lib.hid (Sl.of_own ho)
    have Ydi := Lib.hid (Sl.of_own hd)
    clear ho hd hne
    go_wp2_with fail
    refine (specWorkPlan_any w10 L _ (((((((((V.out.below hb2).below hb3).below hb4).below hb5).below hb6).below hb7).below hb8).below hb9).below hb10) F.out N).mono ?_
    rintro e w11 ⟨yos, yds, rfl, ho, hd, hne, hb11⟩
    have b11 := b10.trans (hb11.mono b10.size)
    have Yos := Lib.hid (Sl.of_own ho)
    have Yds := Lib.hid (Sl.of_own hd)
    clear ho hd hne
    go_wp2_with fail
    refine (likeTexts_same _ _ yns w11 (((((((((Yni.out.below hb3).below hb4).below hb5).below hb6).below hb7).below hb8).below hb9).below hb10).below hb11) ((((((((Yns.out.below hb4).below hb5).below hb6).below hb7).below hb8).below hb9).below hb10).below hb11) (keptNames_len L)).mono ?_
    rintro e w12 ⟨rfl, hb12⟩
    have b12 := b11.trans (hb12.mono b11.size)
    go_wp2_with fail
    refine (likeTexts_same _ _ yos w12 ((Yoi.out.below hb11).below hb12) (Yos.out.below hb12) (workPlan_len L).1).mono ?_
    rintro e w13 ⟨rfl, hb13⟩
    have b13 := b12.trans (hb13.mono b12.size)
    go_wp2_with fail
    refine (likeInts_same _ _ yds w13 (((Ydi.out.below hb11).below hb12).below hb13) ((Yds.out.below hb12).below hb13) (workPlan_len L).2).mono ?_
    rintro e w14 ⟨rfl, hb14⟩
    have b14 := b13.trans (hb14.mono b13.size)
    have K14V := Lib.hid (((((((((((((V.out.below hb2).below hb3).below hb4).below hb5).below hb6).below hb7).below hb8).below hb9).below hb10).below hb11).below hb12).below hb13).below hb14)
    have K14Yni := Lib.hid ((((((((((((Yni.out.below hb3).below hb4).below hb5).below hb6).below hb7).below hb8).below hb9).below hb10).below hb11).below hb12).below hb13).below hb14)
    have K14Ydi := Lib.hid ((((Ydi.out.below hb11).below hb12).below hb13).below hb14)
    clear hn Hcode Hc
    cases h1 : arePromises L
    · skip
      have l1 : keptNames L = ([], 1) := by simp [keptNames, h1]
      have l2 : mostKept L = (0, 1) := by simp [mostKept, h1]
      have l3 : canKeep L = (false, 1) := by simp [canKeep, h1]
      have l4 : theBreach L = (0, 1) := by simp [theBreach, h1]
      have l5 : workPlan L = ([], [], 1) := by simp [workPlan, h1]
      rw [l1, l2, l3, l4, l5]
      go_wp2
      go_ret
      exact ⟨rfl, b14⟩
    · skip
      have hL := promIn_of h1
      have h40 := arePromises_le h1
      have Yn := Lib.hid (show Sl w14 1 (.slice An (keptNm L).length cn) (keptNm L).length (strsRow (keptNm L)) by have h := K14Yni.out; rw [show keptNames L = (keptNm L, 0) by simp [keptNames, h1]] at h; exact h)
      have Yd : Hid (Sl w14 1 (.slice Ad L.length cd) (planDays L (dayOrd L)).length (intsRow (planDays L (dayOrd L)))) := by
        have h := K14Ydi.out
        rw [show workPlan L = (planNames L (dayOrd L), planDays L (dayOrd L), 0) by simp [workPlan, h1]] at h
        have e : (planDays L (dayOrd L)).length = L.length := by simp [planDays, dayOrd_len]
        simp only [e] at h ⊢
        exact Lib.hid h
      have SL := Lib.hid (some_law h1)
      have l1 : keptNames L = (keptNm L, 0) := by simp [keptNames, h1]
      have l2 : mostKept L = (((keptIdx L).length : Int), (0 : Int)) := by simp [mostKept, h1]
      have l3 : canKeep L = (firstBreach L == 0, 0) := by simp [canKeep, h1]
      have l5 : workPlan L = (planNames L (dayOrd L), planDays L (dayOrd L), 0) := by simp [workPlan, h1]
      have e1 : (planNames L (dayOrd L)).length = L.length := by simp [planNames, dayOrd_len]
      have e2 : (planDays L (dayOrd L)).length = L.length := by simp [planDays, dayOrd_len]
      have e3 := keptNm_len L
      have Hi := Lib.hid (kept_all_iff hL)
      have HK : Hid ((keptIdx L).length ≤ 40) := Lib.hid (by have := keptNm_le L; omega)
      have HR := Lib.hid (fun i h1 hi => days_rise (L := L) (i := i) hL h1 hi)
      by_cases hb : firstBreach L = 0
      · skip
        have u1 : (firstBreach L == 0) = true := by simpa using hb
        have u2 : (((keptIdx L).length : Int) == (L.length : Int)) = true := by have := Hi.out.1 hb; simp; omega
        have l4 : theBreach L = (0, 4) := by simp [theBreach, h1, hb]
        rw [l1, l2, l3, l4, l5]
        simp only [e1, e2]
        clear l1 l2 l3 l4 l5 e1 e2 hb Hi
        have Hu2 := Lib.hid u2
        have He3 := Lib.hid e3
        clear u2 e3
        go_wp2
        go_loopw [26, 27] (fun o i wr => ∃ (S : List Promise) (As : Option Addr) (cs k : Nat), o = .slice As S.length cs ∧ i = .int .i64 k ∧ k ≤ L.length ∧ S = someOf (L.take k) (keptNm L) ∧ S.length ≤ k ∧ wr.ownsRow w14.heap.size 43 3 (.slice As S.length cs) S.length (promiseRow S) ∧ Below w14.heap.size w14 wr) (fun _ i _ => L.length - (intOf i).toNat)
        case atStart => exact ⟨[], some ⟨w14.heap.size, 0, none⟩, 0, 0, rfl, rfl, Nat.zero_le _, by simp [someOf], by simp, own_empty w14 43 3 (Nat.le_refl _), (Below.refl _ _).alloc (Nat.le_refl _) _⟩
        case round =>
          obtain ⟨S, As, cs, k, rfl, rfl, hk, hS, hSk, ho, hbw⟩ := hrel
          have HS := Lib.hid hS
          have Ho := Lib.hid ho
          have Hbw := Lib.hid hbw
          have hszr := hbw.size
          clear hS ho hbw
          obtain ⟨i0, hi, hz0, hz1, hz2⟩ := info_parts Try.infoPromise
          by_cases hlt : k < L.length
          · skip
            obtain ⟨gv, ov, rfl, hgv, d0, d1, d2⟩ := (Sl.rd ((K14V.out).below Hbw.out)).promise hlt
            have j0 : (0 : Int) ≤ (k : Int) := Int.natCast_nonneg _
            have j1 : (k : Int) < (L.length : Int) := by omega
            go_wp2_with fail
            refine (hasText_any wr (keptNm L) _ (promiseAt L k).name ((Yn.out).below Hbw.out) (by have := keptNm_le L; omega)).mono ?_
            rintro e wx ⟨rfl, hbx⟩
            have e0 := (hbx.cell (p := ⟨gv, ov + k * 3, none⟩) hgv).trans d0
            have e1 := (hbx.cell (p := ⟨gv, ov + k * 3 + 1, none⟩) hgv).trans d1
            have e2 := (hbx.cell (p := ⟨gv, ov + k * 3 + 2, none⟩) hgv).trans d2
            clear d0 d1 d2
            have Hbx := Lib.hid (Hbw.out.trans (hbx.mono hszr))
            have Hox := Lib.hid (own_below Ho.out hbx)
            have hszx := Hbx.out.size
            clear hbx
            have SS := Lib.hid (some_snoc L (keptNm L) hlt)
            cases hh : hasNm (keptNm L) (promiseAt L k).name
            · skip
              have HS2 := Lib.hid (show S = someOf (L.take (k + 1)) (keptNm L) by rw [SS.out, hh]; exact HS.out)
              clear hh
              go_wp2
              go_roundw
              case rel => exact ⟨S, As, cs, k + 1, rfl, by go_num, by omega, HS2.out, by omega, Hox.out, Hbx.out⟩
              case measure => simp [intOf]; omega
            · skip
              have HS2 := Lib.hid (show S ++ [promiseAt L k] = someOf (L.take (k + 1)) (keptNm L) by rw [SS.out, hh, if_pos rfl, ← HS.out])
              clear hh
              go_wp2_with (at_builtin; refine wpList_append_sl _ rfl (.tmp 169) (.tmp 174) _ rfl w14.heap.size 43 i0 _ 3 32 Try.underlying25 hi hz0 hz1 hz2 rfl (by omega) _ S.length (promiseRow S) rfl (Hox.out.alloc _) (some ⟨wx.heap.size, 0, none⟩) 1 1 (promiseCells (promiseAt L k)) rfl (Rd.of_block (cs := #[.string (promiseAt L k).name, .int .i64 (promiseAt L k).day, .int .i64 (promiseAt L k).min]) (heap_alloc_new _ _) rfl) (promiseCells_one _) (by unfold maxLen; omega) (by omega) (by simp; omega) ?_; intro A9 c9 w9 ho9 hg9 hor9)
              have hrow : (∀ q, (Value.slice As S.length cs).ownBlock = some q → w14.heap.size ≤ q ∧ q < wx.heap.size) := (fun q hq => World.ownsRow.lt Hox.out q hq)
              have Hb9 := Lib.hid ((Hbx.out.alloc hszx (.cells #[.string (promiseAt L k).name, .int .i64 (promiseAt L k).day, .int .i64 (promiseAt L k).min] 43)).grown hg9 (by simp; omega) (fun q hq => (hrow q hq).1))
              have Ho9 := Lib.hid ho9
              clear ho9 hg9 hor9 hrow
              go_roundw
              case rel => exact ⟨S ++ [promiseAt L k], A9, c9, k + 1, by rw [List.length_append]; rfl, by go_num, by omega, HS2.out, by simp; omega, by rw [List.length_append, promiseRow_append]; exact Ho9.out, Hb9.out⟩
              case measure => simp [intOf]; omega
          · skip
            have hk2 : k = L.length := by omega
            have HS2 := Lib.hid (show S = someOf L (keptNm L) by have := HS.out; rwa [hk2, List.take_length] at this)
            have bw : Below w.heap.size w wr := b14.trans (Hbw.out.mono b14.size)
            have VS := Lib.hid (Sl.of_own Ho.out)
            have FS : Hid (promiseFit S) := Lib.hid (by rw [HS2.out]; exact fit_sub List.filter_sublist F.out)
            have YD := Lib.hid ((Yd.out).below Hbw.out)
            clear hk2
            go_wp2_with fail
            refine (implCanKeep_any wr S _ VS.out FS.out (by omega)).mono ?_
            rintro e w90 ⟨rfl, hb90⟩
            have b90 := bw.trans (hb90.mono bw.size)
            have YD2 := Lib.hid (YD.out.below hb90)
            rw [HS2.out, SL.out]
            have u2 := Hu2.out
            have hk40 := HK.out
            simp only [He3.out]
            go_wp2
            go_loopw [30] (fun i wr => ∃ k : Nat, i = .int .i64 ((k : Int) + 1) ∧ k ≤ L.length ∧ Below w90.heap.size w90 wr) (fun i _ => L.length + 1 - (intOf i).toNat)
            case atStart => exact ⟨0, rfl, Nat.zero_le _, Below.refl _ _⟩
            case round =>
              skip
              obtain ⟨q, rfl, hq, hbq⟩ := hrel
              by_cases hlt2 : q + 1 < L.length
              · skip
                have hll : (planDays L (dayOrd L)).length = L.length := by simp [planDays, dayOrd_len]
                obtain ⟨g1, o1, eA, hg1, c0⟩ := (Sl.rd (YD2.out.below hbq)).ints (k := q + 1) (by omega)
                obtain ⟨g2, o2, eA2, hg2, c1⟩ := (Sl.rd (YD2.out.below hbq)).ints (k := q) (by omega)
                subst eA
                injection eA2 with eA2
                injection eA2 with eA3 eA4
                subst eA3
                subst eA4
                have hr := HR.out (q + 1) (by omega) hlt2
                rw [show q + 1 - 1 = q by omega] at hr
                have v1 : decide (intsAt (planDays L (dayOrd L)) (q + 1) < intsAt (planDays L (dayOrd L)) q) = false := by simpa using hr
                have j0 : (0 : Int) ≤ (q : Int) + 1 := by omega
                have j1 : (q : Int) + 1 < (L.length : Int) := by omega
                have j2 : (q : Int) + 1 - 1 = (q : Int) := by omega
                have j3 : (q : Int) < (L.length : Int) := by omega
                have j4 : ((q : Int) + 1).toNat = q + 1 := by omega
                have j5 : (0 : Int) ≤ (q : Int) := by omega
                clear hr hll
                go_wp2
                go_quiet (fail)
                go_wp2
                go_roundw
                case rel => exact ⟨q + 1, by go_num, by omega, below_drewN hbq _⟩
                case measure => simp [intOf]; omega
              · skip
                have j1 : ¬ (q : Int) + 1 < (L.length : Int) := by omega
                go_wp2
                go_ret
                exact ⟨rfl, b90.trans (hbq.mono b90.size)⟩
      · skip
        have u1 : (firstBreach L == 0) = false := by simpa using hb
        have u2 : (((keptIdx L).length : Int) == (L.length : Int)) = false := by (have hne : (keptIdx L).length ≠ L.length := (fun h => hb (Hi.out.2 h))); simp; omega
        have l4 : theBreach L = (firstBreach L, 0) := by simp [theBreach, h1, hb]
        rw [l1, l2, l3, l4, l5]
        simp only [e1, e2]
        clear l1 l2 l3 l4 l5 e1 e2 hb Hi
        have Hu2 := Lib.hid u2
        have He3 := Lib.hid e3
        clear u2 e3
        go_wp2
        go_loopw [26, 27] (fun o i wr => ∃ (S : List Promise) (As : Option Addr) (cs k : Nat), o = .slice As S.length cs ∧ i = .int .i64 k ∧ k ≤ L.length ∧ S = someOf (L.take k) (keptNm L) ∧ S.length ≤ k ∧ wr.ownsRow w14.heap.size 43 3 (.slice As S.length cs) S.length (promiseRow S) ∧ Below w14.heap.size w14 wr) (fun _ i _ => L.length - (intOf i).toNat)
        case atStart => exact ⟨[], some ⟨w14.heap.size, 0, none⟩, 0, 0, rfl, rfl, Nat.zero_le _, by simp [someOf], by simp, own_empty w14 43 3 (Nat.le_refl _), (Below.refl _ _).alloc (Nat.le_refl _) _⟩
        case round =>
          obtain ⟨S, As, cs, k, rfl, rfl, hk, hS, hSk, ho, hbw⟩ := hrel
          have HS := Lib.hid hS
          have Ho := Lib.hid ho
          have Hbw := Lib.hid hbw
          have hszr := hbw.size
          clear hS ho hbw
          obtain ⟨i0, hi, hz0, hz1, hz2⟩ := info_parts Try.infoPromise
          by_cases hlt : k < L.length
          · skip
            obtain ⟨gv, ov, rfl, hgv, d0, d1, d2⟩ := (Sl.rd ((K14V.out).below Hbw.out)).promise hlt
            have j0 : (0 : Int) ≤ (k : Int) := Int.natCast_nonneg _
            have j1 : (k : Int) < (L.length : Int) := by omega
            go_wp2_with fail
            refine (hasText_any wr (keptNm L) _ (promiseAt L k).name ((Yn.out).below Hbw.out) (by have := keptNm_le L; omega)).mono ?_
            rintro e wx ⟨rfl, hbx⟩
            have e0 := (hbx.cell (p := ⟨gv, ov + k * 3, none⟩) hgv).trans d0
            have e1 := (hbx.cell (p := ⟨gv, ov + k * 3 + 1, none⟩) hgv).trans d1
            have e2 := (hbx.cell (p := ⟨gv, ov + k * 3 + 2, none⟩) hgv).trans d2
            clear d0 d1 d2
            have Hbx := Lib.hid (Hbw.out.trans (hbx.mono hszr))
            have Hox := Lib.hid (own_below Ho.out hbx)
            have hszx := Hbx.out.size
            clear hbx
            have SS := Lib.hid (some_snoc L (keptNm L) hlt)
            cases hh : hasNm (keptNm L) (promiseAt L k).name
            · skip
              have HS2 := Lib.hid (show S = someOf (L.take (k + 1)) (keptNm L) by rw [SS.out, hh]; exact HS.out)
              clear hh
              go_wp2
              go_roundw
              case rel => exact ⟨S, As, cs, k + 1, rfl, by go_num, by omega, HS2.out, by omega, Hox.out, Hbx.out⟩
              case measure => simp [intOf]; omega
            · skip
              have HS2 := Lib.hid (show S ++ [promiseAt L k] = someOf (L.take (k + 1)) (keptNm L) by rw [SS.out, hh, if_pos rfl, ← HS.out])
              clear hh
              go_wp2_with (at_builtin; refine wpList_append_sl _ rfl (.tmp 169) (.tmp 174) _ rfl w14.heap.size 43 i0 _ 3 32 Try.underlying25 hi hz0 hz1 hz2 rfl (by omega) _ S.length (promiseRow S) rfl (Hox.out.alloc _) (some ⟨wx.heap.size, 0, none⟩) 1 1 (promiseCells (promiseAt L k)) rfl (Rd.of_block (cs := #[.string (promiseAt L k).name, .int .i64 (promiseAt L k).day, .int .i64 (promiseAt L k).min]) (heap_alloc_new _ _) rfl) (promiseCells_one _) (by unfold maxLen; omega) (by omega) (by simp; omega) ?_; intro A9 c9 w9 ho9 hg9 hor9)
              have hrow : (∀ q, (Value.slice As S.length cs).ownBlock = some q → w14.heap.size ≤ q ∧ q < wx.heap.size) := (fun q hq => World.ownsRow.lt Hox.out q hq)
              have Hb9 := Lib.hid ((Hbx.out.alloc hszx (.cells #[.string (promiseAt L k).name, .int .i64 (promiseAt L k).day, .int .i64 (promiseAt L k).min] 43)).grown hg9 (by simp; omega) (fun q hq => (hrow q hq).1))
              have Ho9 := Lib.hid ho9
              clear ho9 hg9 hor9 hrow
              go_roundw
              case rel => exact ⟨S ++ [promiseAt L k], A9, c9, k + 1, by rw [List.length_append]; rfl, by go_num, by omega, HS2.out, by simp; omega, by rw [List.length_append, promiseRow_append]; exact Ho9.out, Hb9.out⟩
              case measure => simp [intOf]; omega
          · skip
            have hk2 : k = L.length := by omega
            have HS2 := Lib.hid (show S = someOf L (keptNm L) by have := HS.out; rwa [hk2, List.take_length] at this)
            have bw : Below w.heap.size w wr := b14.trans (Hbw.out.mono b14.size)
            have VS := Lib.hid (Sl.of_own Ho.out)
            have FS : Hid (promiseFit S) := Lib.hid (by rw [HS2.out]; exact fit_sub List.filter_sublist F.out)
            have YD := Lib.hid ((Yd.out).below Hbw.out)
            clear hk2
            go_wp2_with fail
            refine (implCanKeep_any wr S _ VS.out FS.out (by omega)).mono ?_
            rintro e w90 ⟨rfl, hb90⟩
            have b90 := bw.trans (hb90.mono bw.size)
            have YD2 := Lib.hid (YD.out.below hb90)
            rw [HS2.out, SL.out]
            have u2 := Hu2.out
            have hk40 := HK.out
            simp only [He3.out]
            go_wp2
            go_loopw [30] (fun i wr => ∃ k : Nat, i = .int .i64 ((k : Int) + 1) ∧ k ≤ L.length ∧ Below w90.heap.size w90 wr) (fun i _ => L.length + 1 - (intOf i).toNat)
            case atStart => exact ⟨0, rfl, Nat.zero_le _, Below.refl _ _⟩
            case round =>
              skip
              obtain ⟨q, rfl, hq, hbq⟩ := hrel
              by_cases hlt2 : q + 1 < L.length
              · skip
                have hll : (planDays L (dayOrd L)).length = L.length := by simp [planDays, dayOrd_len]
                obtain ⟨g1, o1, eA, hg1, c0⟩ := (Sl.rd (YD2.out.below hbq)).ints (k := q + 1) (by omega)
                obtain ⟨g2, o2, eA2, hg2, c1⟩ := (Sl.rd (YD2.out.below hbq)).ints (k := q) (by omega)
                subst eA
                injection eA2 with eA2
                injection eA2 with eA3 eA4
                subst eA3
                subst eA4
                have hr := HR.out (q + 1) (by omega) hlt2
                rw [show q + 1 - 1 = q by omega] at hr
                have v1 : decide (intsAt (planDays L (dayOrd L)) (q + 1) < intsAt (planDays L (dayOrd L)) q) = false := by simpa using hr
                have j0 : (0 : Int) ≤ (q : Int) + 1 := by omega
                have j1 : (q : Int) + 1 < (L.length : Int) := by omega
                have j2 : (q : Int) + 1 - 1 = (q : Int) := by omega
                have j3 : (q : Int) < (L.length : Int) := by omega
                have j4 : ((q : Int) + 1).toNat = q + 1 := by omega
                have j5 : (0 : Int) ≤ (q : Int) := by omega
                clear hr hll
                go_wp2
                go_quiet (fail)
                go_wp2
                go_roundw
                case rel => exact ⟨q + 1, by go_num, by omega, below_drewN hbq _⟩
                case measure => simp [intOf]; omega
              · skip
                have j1 : ¬ (q : Int) + 1 < (L.length : Int) := by omega
                go_wp2
                go_ret
                exact ⟨rfl, b90.trans (hbq.mono b90.size)⟩

namespace GreatKept
set_option maxRecDepth 100000 in
theorem lifted (os : Os) (started : os.Started) (H : Type) (enc : TypeId × Value → H) :
    ReturnsInHanded {} Try.checked os 13 .any (Rows.fnKeptSpec.pre6 enc Try.prog Try.f13 Rows.fnKeptRow.domain false) (Rows.fnKeptSpec.post enc Try.prog Try.f13 false true false false) := by
  refine returnsInHanded_of_change (C := Try.checked) Try.own started (by kernel_rfl) Try.func13
    (ChangeSpec.witness6 (enc := enc) (C := Try.checked) false ⟨#[], #[.slice none 0 0], []⟩ 8 (by kernel_rfl) (by kernel_rfl) (by kernel_rfl) (by kernel_rfl)) ?_
  intro W base args ds gs before hval0 hW hcnd _
  have hval : ∀ (j : Nat) t v, Try.f13.params[j]? = some t → args[j]? = some v → Value.okWide Try.prog W .any base t v := hval0
  have hW' := hW
  obtain ⟨p, q, hA0, hV, rfl, hfz, hnd⟩ := hW
  have hA : DataW.TrodAll enc Try.prog W 0 (fun _ => true) true Try.f13.params.toList args.toList ds p := hA0
  rw [Try.params13] at hA hval
  obtain ⟨v0, vs0, d0, ds0, p0, q0, hargs, rfl, rfl, h0, r0⟩ := trodAll_cons hA
  obtain ⟨rfl, rfl, rfl⟩ := trodAll_nil r0
  obtain rfl : args = #[v0] := by cases args; simp_all
  obtain ⟨rfl, rfl⟩ := trodVars_none hV
  have lt0 : ∀ x ∈ p0, x.block < W.heap.size := by obtain ⟨m, hm⟩ := h0; exact DataW.trod_lt m _ _ _ hm
  obtain ⟨A0, n0, c0, ev0, hcode0, hc0⟩ := open_code (hval 0 _ v0 rfl rfl) h0
  subst ev0
  clear hA0 hval0
  refine (lawKept_walk W A0 n0 c0 hcode0 hc0).mono fun e W' ⟨he, bel⟩ => ?_
  subst he
  exact ⟨_, rfl, _, _, _, [], _, [], hW', trodAll_mk1 (shut_bool Try.underlying4 _), (trodAll_cons_mk (Below.trod Try.laidOut (by kernel_rfl) (of_decide_eq_true (by kernel_rfl)) h0 bel lt0) trodAll_mk0), rfl, bel.frame _, fun h => by cases h⟩

theorem proved : Rows.FnKeptSaid :=
  OpenClaim.holds_of_wide 13 Try.f13 rfl rfl rfl rfl rfl rfl rfl ⟨rfl, rfl, rfl, rfl, rfl⟩ rfl rfl rfl rfl rfl (by kernel_rfl) Try.func13 (by kernel_rfl)
    (of_decide_eq_true (by kernel_rfl)) (by unfold Func.isWrapper; first | (rw [if_pos (by decide +kernel)]; kernel_rfl) | (rw [if_neg (by decide +kernel)]; exact ⟨rfl, rfl⟩))
    (fun os started H enc _ => lifted os started H enc)
#print axioms proved
end GreatKept

end Go.Proofs.Ytgafjchbfbpmmaa
