/- The walks of LateJobs, in the program and in the reference. -/
import Derived.Test.YtfkindkekjafnaaJobA
namespace Go.Proofs.Ytfkindkekjafnaa
open Go.RowKit

def lateGo (L : List Job) (D : List Int) (P : List Int) : List ByteArray := (P.filter fun p => decide (0 < intsAt D p.toNat)).map fun p => (jobAt L p.toNat).name
theorem lateGo_yes (L : List Job) (D P : List Int) {k : Nat} (h : k < P.length) (hp : 0 < intsAt D (intsAt P k).toNat) : lateGo L D (P.take (k + 1)) = lateGo L D (P.take k) ++ [(jobAt L (intsAt P k).toNat).name] := by
  rw [take_snoc P 0 h, lateGo, List.filter_append, List.map_append]
  have e : P.getD k 0 = intsAt P k := rfl
  rw [e]; simp [lateGo, hp]
theorem lateGo_no (L : List Job) (D P : List Int) {k : Nat} (h : k < P.length) (hp : ¬ 0 < intsAt D (intsAt P k).toNat) : lateGo L D (P.take (k + 1)) = lateGo L D (P.take k) := by
  rw [take_snoc P 0 h, lateGo, List.filter_append, List.map_append]
  have e : P.getD k 0 = intsAt P k := rfl
  rw [e]; simp [lateGo, hp]
theorem lateGo_len (L : List Job) (D P : List Int) : (lateGo L D P).length ≤ P.length := by simp [lateGo, List.length_filter_le]
def lateNames (L : List Job) (P : List Int) : List ByteArray × Int := if planCode L P = 0 then (lateGo L (lateOf L P) P, 0) else ([], planCode L P)
theorem lateNames_len (L : List Job) (P : List Int) : (lateNames L P).1.length ≤ 4194304 := by
  unfold lateNames
  split
  · rename_i h
    have h1 := planCode_zero h
    have := areJobs_le h1.1
    have h2 := (planOk_iff.1 h1.2).1
    have := lateGo_len L (lateOf L P) P
    simp; omega
  · simp

set_option maxHeartbeats 2000000 in
theorem implLateJobs_any (w : World) (L : List Job) (v : Value) (P : List Int) (u : Value) (hv : Sl w 3 v L.length (jobRow L)) (hf : jobFit L) (hn : L.length ≤ 4194304) (hu : Sl w 1 u P.length (intsRow P)) (hP : P.length ≤ 4194304) :
    Calls Try.prog 34 #[v, u] w (RetSC w.heap.size 9 1 strsRow (lateNames L P) w) := by
  have Hv := Lib.hid hv
  have Hf := Lib.hid hf
  have Hu := Lib.hid hu
  clear hf
  cases h1 : areJobs L
  · clear hv hu
    have H := Lib.hid (show lateNames L P = ([], 1) by simp [lateNames, planCode_bad h1])
    go_enter Try.func34, Try.ntmps34
    go_wp2_with fail
    refine (implAreJobs_any w L v Hv.out Hf.out hn).mono ?_
    rintro e w2 ⟨rfl, hb2⟩
    rw [h1]
    go_wp2
    go_ret2
    exact RetSC.err H.out rfl hb2
  · have h7 := areJobs_le h1
    cases h2 : planOk L.length P
    · clear hv hu
      have H := Lib.hid (show lateNames L P = ([], 2) by simp [lateNames, planCode_no h1 h2])
      go_enter Try.func34, Try.ntmps34
      go_wp2_with fail
      refine (implAreJobs_any w L v Hv.out Hf.out hn).mono ?_
      rintro e w2 ⟨rfl, hb2⟩
      rw [h1]
      go_wp2_with fail
      refine (implIsPlan_any w2 L v P u (Hv.out.below hb2) h7 (Hu.out.below hb2) hP).mono ?_
      rintro e w3 ⟨rfl, hb3⟩
      rw [h2]
      go_wp2
      go_ret2
      exact RetSC.err H.out rfl (hb2.trans (hb3.mono hb2.size))
    · have H := Lib.hid (show lateNames L P = (lateGo L (lateOf L P) P, 0) by simp [lateNames, planCode_ok h1 h2])
      have hlP := (planOk_iff.1 h2).1
      have hP7 : P.length ≤ 7 := by omega
      have HlP := Lib.hid hlP
      clear hlP
      obtain ⟨i0, hi, hz0, hz1, hz2⟩ := info_parts Try.info_strs
      obtain ⟨A, c, rfl, hl, hc, hr⟩ := hv
      obtain ⟨A', c', rfl, hl', hc', hr'⟩ := hu
      have Hr := Lib.hid hr
      have Hr' := Lib.hid hr'
      clear hr hr' hl hc hl' hc'
      go_enter Try.func34, Try.ntmps34
      go_wp2_with fail
      refine (implAreJobs_any w L _ Hv.out Hf.out hn).mono ?_
      rintro e w2 ⟨rfl, hb2⟩
      rw [h1]
      go_wp2_with fail
      refine (implIsPlan_any w2 L _ P _ (Hv.out.below hb2) h7 (Hu.out.below hb2) hP).mono ?_
      rintro e w3 ⟨rfl, hb3⟩
      rw [h2]
      have b3 := hb2.trans (hb3.mono hb2.size)
      go_wp2_with fail
      refine (implLate_any w3 L _ P _ (Hv.out.below b3) (Hu.out.below b3) h1 h2).mono ?_
      rintro e w4 ⟨y, rfl, ho, hb4⟩
      have b4 := b3.trans (hb4.mono b3.size)
      obtain ⟨Ad, cd, rfl, _, _⟩ := own_slice ho
      have Hd := Lib.hid (Rd.of_own ho)
      have Hr4 := Lib.hid (Hr.out.below' b4)
      have Hr4' := Lib.hid (Hr'.out.below' b4)
      have hDl : (lateOf L P).length = L.length := lateOf_len L P
      have HDl := Lib.hid hDl
      obtain ⟨D, hD⟩ : ∃ D, D = lateOf L P := ⟨_, rfl⟩
      rw [← hD] at Hd H HDl
      clear ho hb2 hb3 hb4 b3 hDl hD
      go_wp2
      go_loopw [7, 22] (fun s i wr => ∃ (k : Nat) (ns : List ByteArray) (Ao : Option Addr) (co : Nat), k ≤ P.length ∧ ns = lateGo L D (P.take k) ∧ ns.length ≤ k ∧ i = .int .i64 k ∧ s = .slice Ao ns.length co ∧
          wr.ownsRow w4.heap.size 9 1 (.slice Ao ns.length co) ns.length (strsRow ns) ∧ Below w4.heap.size w4 wr) (fun _ i _ => P.length - (intOf i).toNat)
      case atStart => exact ⟨0, [], none, 0, Nat.zero_le _, rfl, Nat.le_refl _, rfl, rfl, World.ownsRow_nil _ _ _ _, Below.refl _ _⟩
      case round =>
        obtain ⟨k, ns, Ao, co, hk, hns, hnl, rfl, rfl, ho, hb⟩ := hrel
        have Hns := Lib.hid hns
        have Ho := Lib.hid ho
        clear hns ho
        have hsz := hb.size
        by_cases hlt : k < P.length
        · obtain ⟨g', o', rfl, hg', c0⟩ := (Hr4'.out.below hb (Nat.le_refl _)).ints hlt
          obtain ⟨b, hbe, hbl⟩ := planOk_at h2 hlt
          have Hbe := Lib.hid hbe
          rw [hbe] at c0
          clear hbe
          have hDb : b < D.length := by rw [HDl.out]; exact hbl
          obtain ⟨gd, od, rfl, hgd, d0⟩ := (show Rd wr w4.heap.size 1 Ad D.length (intsRow D) by rw [HDl.out]; exact Hd.out.below hb (Nat.le_refl _)).ints hDb
          obtain ⟨g, o, rfl, hg, e0, e1, e2⟩ := (Hr4.out.below hb (Nat.le_refl _)).job hbl
          clear hDb
          by_cases hp : 0 < intsAt D b
          · go_wp2_with (at_builtin; refine wpList_append_sl _ rfl (.tmp 31) (.tmp 37) _ rfl w4.heap.size 9 i0 _ 1 16 Try.underlying47 hi hz0 hz1 hz2 rfl (by omega) _ ns.length (strsRow ns) rfl (Ho.out.alloc _) (some ⟨wr.heap.size, 0, none⟩) 1 1 [.string (jobAt L b).name] rfl (Rd.of_block (cs := #[.string (jobAt L b).name]) (heap_alloc_new _ _) rfl) (by intro x hx; simp at hx; subst hx; rfl) (by unfold maxLen; omega) (by omega) (by simp; omega) ?_; intro A9 c9 w9 ho9 hg9 hor9)
            have b9 : Below w4.heap.size w4 w9 := (hb.alloc hsz _).grown hg9 (by simp; omega) (fun q hq => (World.ownsRow.lt Ho.out q hq).1)
            have Ho9 := Lib.hid ho9
            clear ho9 hg9 hor9
            go_roundw
            case rel =>
              have en : ns ++ [(jobAt L b).name] = lateGo L D (P.take (k + 1)) := by
                rw [lateGo_yes L D P hlt (by rw [Hbe.out]; exact hp), ← Hns.out, Hbe.out]; rfl
              refine ⟨k + 1, ns ++ [(jobAt L b).name], A9, c9, by omega, en, by simp; omega, by go_num, by simp, ?_, b9⟩
              rw [List.length_append, strsRow_append]; exact Ho9.out
            case measure => simp [intOf]; omega
          · go_wp2
            go_roundw
            case rel =>
              exact ⟨k + 1, ns, Ao, co, by omega, by rw [lateGo_no L D P hlt (by rw [Hbe.out]; exact (by simpa using hp)), ← Hns.out], by omega, by go_num, rfl, Ho.out, hb⟩
            case measure => simp [intOf]; omega
        · go_wp2
          go_ret2
          exact RetSC.ok H.out Ho.out (by rw [Hns.out, List.take_of_length_le (by omega)]) (by rw [Hns.out, List.take_of_length_le (by omega)]) b4.size (b4.trans (hb.mono b4.size))

set_option maxHeartbeats 2000000 in
theorem specLateJobs_any (w : World) (L : List Job) (v : Value) (P : List Int) (u : Value) (hv : Sl w 3 v L.length (jobRow L)) (hf : jobFit L) (hn : L.length ≤ 4194304) (hu : Sl w 1 u P.length (intsRow P)) (hP : P.length ≤ 4194304) :
    Calls Try.prog 33 #[v, u] w (RetSC w.heap.size 9 1 strsRow (lateNames L P) w) := by
  have Hv := Lib.hid hv
  have Hf := Lib.hid hf
  have Hu := Lib.hid hu
  clear hf
  by_cases h0 : planCode L P = 0
  · obtain ⟨h1, h2⟩ := planCode_zero h0
    have h7 := areJobs_le h1
    have H := Lib.hid (show lateNames L P = (lateGo L (lateOf L P) P, 0) by simp [lateNames, h0])
    have hlP := (planOk_iff.1 h2).1
    have hP7 : P.length ≤ 7 := by omega
    have HlP := Lib.hid hlP
    clear hlP
    obtain ⟨i0, hi, hz0, hz1, hz2⟩ := info_parts Try.info_strs
    obtain ⟨A, c, rfl, hl, hc, hr⟩ := hv
    obtain ⟨A', c', rfl, hl', hc', hr'⟩ := hu
    have Hr := Lib.hid hr
    have Hr' := Lib.hid hr'
    clear hr hr' hl hc hl' hc'
    go_enter Try.func33, Try.ntmps33
    go_wp2_with fail
    refine (specPlan_any w L _ P _ Hv.out Hf.out hn Hu.out hP).mono ?_
    rintro e w3 ⟨rfl, b3⟩
    rw [h0]
    clear h0
    go_wp2_with fail
    refine (specLate_any w3 L _ P _ (Hv.out.below b3) (Hu.out.below b3) h1 h2).mono ?_
    rintro e w4 ⟨y, rfl, ho, hb4⟩
    have b4 := b3.trans (hb4.mono b3.size)
    obtain ⟨Ad, cd, rfl, _, _⟩ := own_slice ho
    have Hd := Lib.hid (Rd.of_own ho)
    have Hr4 := Lib.hid (Hr.out.below' b4)
    have Hr4' := Lib.hid (Hr'.out.below' b4)
    have hDl : (lateOf L P).length = L.length := lateOf_len L P
    have HDl := Lib.hid hDl
    obtain ⟨D, hD⟩ : ∃ D, D = lateOf L P := ⟨_, rfl⟩
    rw [← hD] at Hd H HDl
    clear ho hb4 b3 hDl hD
    go_wp2
    go_loopw [8, 9] (fun s i wr => ∃ (k : Nat) (ns : List ByteArray) (Ao : Option Addr) (co : Nat), k ≤ P.length ∧ ns = lateGo L D (P.take k) ∧ ns.length ≤ k ∧ i = .int .i64 k ∧ s = .slice Ao ns.length co ∧
        wr.ownsRow w4.heap.size 9 1 (.slice Ao ns.length co) ns.length (strsRow ns) ∧ Below w4.heap.size w4 wr) (fun _ i _ => P.length - (intOf i).toNat)
    case atStart => exact ⟨0, [], some ⟨w4.heap.size, 0, none⟩, 0, Nat.zero_le _, rfl, Nat.le_refl _, rfl, rfl, own_empty _ _ _ (Nat.le_refl _), (Below.refl _ _).alloc (Nat.le_refl _) _⟩
    case round =>
      obtain ⟨k, ns, Ao, co, hk, hns, hnl, rfl, rfl, ho, hb⟩ := hrel
      have Hns := Lib.hid hns
      have Ho := Lib.hid ho
      clear hns ho
      have hsz := hb.size
      by_cases hlt : k < P.length
      · obtain ⟨g', o', rfl, hg', c0⟩ := (Hr4'.out.below hb (Nat.le_refl _)).ints hlt
        obtain ⟨b, hbe, hbl⟩ := planOk_at h2 hlt
        have Hbe := Lib.hid hbe
        rw [hbe] at c0
        clear hbe
        have hDb : b < D.length := by rw [HDl.out]; exact hbl
        obtain ⟨gd, od, rfl, hgd, d0⟩ := (show Rd wr w4.heap.size 1 Ad D.length (intsRow D) by rw [HDl.out]; exact Hd.out.below hb (Nat.le_refl _)).ints hDb
        obtain ⟨g, o, rfl, hg, e0, e1, e2⟩ := (Hr4.out.below hb (Nat.le_refl _)).job hbl
        clear hDb
        by_cases hp : 0 < intsAt D b
        · go_wp2_with (at_builtin; refine wpList_append_sl _ rfl (.tmp 34) (.tmp 43) _ rfl w4.heap.size 9 i0 _ 1 16 Try.underlying47 hi hz0 hz1 hz2 rfl (by omega) _ ns.length (strsRow ns) rfl (Ho.out.alloc _) (some ⟨wr.heap.size, 0, none⟩) 1 1 [.string (jobAt L b).name] rfl (Rd.of_block (cs := #[.string (jobAt L b).name]) (heap_alloc_new _ _) rfl) (by intro x hx; simp at hx; subst hx; rfl) (by unfold maxLen; omega) (by omega) (by simp; omega) ?_; intro A9 c9 w9 ho9 hg9 hor9)
          have b9 : Below w4.heap.size w4 w9 := (hb.alloc hsz _).grown hg9 (by simp; omega) (fun q hq => (World.ownsRow.lt Ho.out q hq).1)
          have Ho9 := Lib.hid ho9
          clear ho9 hg9 hor9
          go_roundw
          case rel =>
            have en : ns ++ [(jobAt L b).name] = lateGo L D (P.take (k + 1)) := by
              rw [lateGo_yes L D P hlt (by rw [Hbe.out]; exact hp), ← Hns.out, Hbe.out]; rfl
            refine ⟨k + 1, ns ++ [(jobAt L b).name], A9, c9, by omega, en, by simp; omega, by go_num, by simp, ?_, b9⟩
            rw [List.length_append, strsRow_append]; exact Ho9.out
          case measure => simp [intOf]; omega
        · go_wp2
          go_roundw
          case rel =>
            exact ⟨k + 1, ns, Ao, co, by omega, by rw [lateGo_no L D P hlt (by rw [Hbe.out]; exact (by simpa using hp)), ← Hns.out], by omega, by go_num, rfl, Ho.out, hb⟩
          case measure => simp [intOf]; omega
      · go_wp2
        go_ret2
        exact RetSC.ok H.out Ho.out (by rw [Hns.out, List.take_of_length_le (by omega)]) (by rw [Hns.out, List.take_of_length_le (by omega)]) b4.size (b4.trans (hb.mono b4.size))
  · clear hv hu
    have H := Lib.hid (show lateNames L P = ([], planCode L P) by simp [lateNames, h0])
    have t0 : (planCode L P != 0) = true := by simpa using h0
    clear h0
    go_enter Try.func33, Try.ntmps33
    go_wp2_with fail
    refine (specPlan_any w L v P u Hv.out Hf.out hn Hu.out hP).mono ?_
    rintro e w2 ⟨rfl, hb2⟩
    go_wp2
    go_ret2
    exact RetSC.err H.out rfl hb2

end Go.Proofs.Ytfkindkekjafnaa
