/- The walks of l01Has, spec.KeptNames. Printed by gen_kept.py. -/
import Derived.Test.YtgafjchbfbpmmaaKeptS
namespace Go.Proofs.Ytgafjchbfbpmmaa
open Go.RowKit

def hasI (l : List Int) (x : Int) : Bool := l.contains x
set_option maxHeartbeats 1600000 in
theorem specHas_any (w : World) (l : List Int) (u : Value) (x : Int) (hu : Sl w 1 u l.length (intsRow l)) :
    Calls Try.prog 74 #[u, .int .i64 x] w fun e w' => e = .returned (.bool (hasI l x)) ∧ w = w' := by
  obtain ⟨A, c, rfl, hl, hc, hr⟩ := hu
  have Hr := Lib.hid hr
  unfold maxLen at hc
  clear hr
  go_enter Try.func74, Try.ntmps74
  go_wp2
  go_loop [5] (fun i => ∃ k : Nat, k ≤ l.length ∧ i = .int .i64 k ∧ (l.take k).contains x = false) (fun i => l.length - (intOf i).toNat)
  case atStart => exact ⟨0, Nat.zero_le _, rfl, by simp⟩
  case round =>
    obtain ⟨k, hk, rfl, hall⟩ := hrel
    have Hall := Lib.hid hall
    clear hall
    by_cases hlt : k < l.length
    · obtain ⟨g, o, rfl, hg, c0⟩ := Hr.out.ints hlt
      have i0 : (0 : Int) ≤ (k : Int) := Int.natCast_nonneg _
      have i1 : (k : Int) < (l.length : Int) := by omega
      by_cases he : intsAt l k = x
      · have E := Lib.hid (show hasI l x = true by
          unfold hasI
          rw [List.contains_iff_mem, ← he]
          have : intsAt l k = l[k] := by simp [intsAt, List.getD, hlt]
          rw [this]; exact List.getElem_mem hlt)
        have t0 : (intsAt l k == x) = true := by simpa using he
        clear he
        go_wp2
        go_ret
        exact ⟨retB E.out.symm, rfl⟩
      · have E := Lib.hid (show (l.take (k + 1)).contains x = false by rw [take_has l hlt, Hall.out, Bool.false_or]; simp; exact fun e => he e.symm)
        have t0 : (intsAt l k == x) = false := by simpa using he
        clear he
        go_wp2
        go_round
        case rel => exact ⟨k + 1, by omega, by go_num, E.out⟩
        case measure => simp [intOf]; omega
    · have E := Lib.hid (show hasI l x = false by unfold hasI; have := Hall.out; rwa [List.take_of_length_le (by omega)] at this)
      go_wp2
      go_ret
      exact ⟨retB E.out.symm, rfl⟩

set_option maxHeartbeats 2000000 in
theorem specKeptNames_any (w : World) (L : List Promise) (v : Value) (hv : Sl w 3 v L.length (promiseRow L)) (hf : promiseFit L) (hn : L.length ≤ 4194304) :
    Calls Try.prog 38 #[v] w (RetSC w.heap.size 9 1 strsRow (keptNames L) w) := by
  have Hv := Lib.hid hv
  have Hf := Lib.hid hf
  clear hf
  cases h1 : arePromises L
  · have H := Lib.hid (show keptNames L = ([], 1) by simp [keptNames, h1])
    clear hv
    go_enter Try.func38, Try.ntmps38
    go_wp2_with fail
    refine (specArePromises_any w L v Hv.out Hf.out hn).mono ?_
    rintro e w2 ⟨rfl, hb2⟩
    rw [h1]
    go_wp2
    go_ret2
    exact RetSC.err H.out rfl hb2
  · have hL := promIn_of h1
    have H := Lib.hid (show keptNames L = (keptNm L, 0) by simp [keptNames, h1])
    have hL40 := arePromises_le h1
    obtain ⟨i0, hi, hz0, hz1, hz2⟩ := info_parts Try.info_strs
    obtain ⟨A, c, rfl, hl, hc, hr⟩ := hv
    have Hr := Lib.hid hr
    clear hr hl hc
    go_enter Try.func38, Try.ntmps38
    go_wp2_with fail
    refine (specArePromises_any w L _ Hv.out Hf.out hn).mono ?_
    rintro e w2 ⟨rfl, hb2⟩
    rw [h1]
    have hs2 := hb2.size
    go_wp2_with fail
    refine (specKept_any _ L _ (Hv.out.below (hb2.alloc hb2.size _)) hL).mono ?_
    rintro e w3 ⟨y, rfl, ho3, hb3⟩
    obtain ⟨A3, c3, rfl, _, _⟩ := own_slice ho3
    have b3 : Below w2.heap.size w2 w3 := ((Below.refl _ _).alloc (Nat.le_refl _) _).trans (hb3.mono (by simp))
    have n2 : World.ownsRow (w2.alloc (.cells #[] 9)) w2.heap.size 9 1 (.slice (some ⟨w2.heap.size, 0, none⟩) 0 0) 0 [] := own_empty w2 9 1 (Nat.le_refl _)
    have N3 := Lib.hid (own_below n2 hb3)
    have Q1 := Lib.hid (Apart.fresh ho3 n2)
    have D3 := Lib.hid (Sl.of_own ho3)
    have Hr2 := Lib.hid (Hr.out.below' hb2)
    obtain ⟨K, hK⟩ : ∃ K, K = keptIdx L := ⟨_, rfl⟩
    rw [← hK] at D3 Q1
    rw [← hK]
    have HK := Lib.hid hK
    have hKl : K.length ≤ L.length := by rw [hK]; exact keptTo_le L (Nat.le_refl _)
    clear ho3 n2 hK
    go_wp2
    go_loopw [4, 6] (fun s i wr => ∃ (q : Nat) (ns : List ByteArray) (An : Option Addr) (cn : Nat), q ≤ L.length ∧ i = .int .i64 q ∧ ns = nmTo L K q ∧ s = .slice An ns.length cn ∧ wr.ownsRow w2.heap.size 9 1 (.slice An ns.length cn) ns.length (strsRow ns) ∧ Below w2.heap.size w2 wr ∧ Sl wr 1 (.slice A3 K.length c3) K.length (intsRow K) ∧ Apart (.slice A3 K.length c3) (.slice An ns.length cn) K.length wr) (fun _ i _ => L.length - (intOf i).toNat)
    case atStart => exact ⟨0, [], some ⟨w2.heap.size, 0, none⟩, 0, Nat.zero_le _, rfl, rfl, rfl, N3.out, b3, D3.out, Q1.out⟩
    case round =>
      obtain ⟨q, ns, An, cn, hq, rfl, hns, rfl, hn, hbn, hd, hap⟩ := hrel
      have Hns := Lib.hid hns
      have Hn := Lib.hid hn
      have Hd := Lib.hid hd
      have Hap := Lib.hid hap
      have hzn := hbn.size
      have hnl : ns.length ≤ 41 := by have := nmTo_le L K q; rw [← hns] at this; omega
      clear hns hn hd hap
      by_cases hlq : q < L.length
      · obtain ⟨g, o, rfl, hg, c0, c1, c2⟩ := (Hr2.out.below hbn (Nat.le_refl _)).promise hlq
        have i1 : (0 : Int) ≤ (q : Int) := Int.natCast_nonneg _
        have i2 : (q : Int) < (L.length : Int) := by omega
        cases hc : K.contains (q : Int)
        · have E := Lib.hid (nmTo_no (L := L) hc)
          go_wp2_with fail
          refine (specHas_any wr K _ q Hd.out).mono ?_
          rintro e w9 ⟨rfl, rfl⟩
          rw [show hasI K (q : Int) = _ from hc]
          go_wp2
          go_roundw
          case rel => exact ⟨q + 1, ns, An, cn, by omega, by go_num, by rw [E.out, Hns.out], rfl, Hn.out, hbn, Hd.out, Hap.out⟩
          case measure => simp [intOf]; omega
        · have E := Lib.hid (nmTo_yes (L := L) hc)
          go_wp2_with fail
          refine (specHas_any wr K _ q Hd.out).mono ?_
          rintro e w9 ⟨rfl, rfl⟩
          rw [show hasI K (q : Int) = _ from hc]
          go_wp2_with (at_builtin; refine wpList_append_sl _ rfl (.tmp 22) (.tmp 28) _ rfl w2.heap.size 9 i0 _ 1 16 Try.underlying46 hi hz0 hz1 hz2 rfl (by omega) _ ns.length (strsRow ns) rfl (Hn.out.alloc _) (some ⟨wr.heap.size, 0, none⟩) 1 1 [.string (promiseAt L q).name] rfl (Rd.of_block (cs := #[.string (promiseAt L q).name]) (heap_alloc_new _ _) rfl) (by intro x hx; simp at hx; subst hx; rfl) (by unfold maxLen; omega) (by omega) (by simp <;> omega) ?_; intro A7 c7 w7 ho7 hg7 hor7)
          have b7 : Below w2.heap.size w2 w7 := (hbn.alloc hzn _).grown hg7 (by simp; omega) (fun p hp => (World.ownsRow.lt Hn.out p hp).1)
          have D7 := Lib.hid (Sl.grown_apart (Hd.out.below ((Below.refl _ _).alloc (Nat.le_refl _) (.cells #[.string (promiseAt L q).name] 9))) hg7 (Hap.out.mono (by simp)))
          have P7 := Lib.hid ((Hap.out.mono (w' := wr.alloc (.cells #[.string (promiseAt L q).name] 9)) (by simp)).append hor7 hg7.size)
          have O7 := Lib.hid ho7
          clear ho7 hg7 hor7
          go_roundw
          case rel =>
            refine ⟨q + 1, ns ++ [(promiseAt L q).name], A7, c7, by omega, by go_num, by rw [E.out, Hns.out], by rw [List.length_append]; rfl, ?_, b7, D7.out, ?_⟩
            · rw [List.length_append, strsRow_append]; exact O7.out
            · rw [List.length_append]; exact P7.out
          case measure => simp [intOf]; omega
      · have hqq : q = L.length := by omega
        have E := Lib.hid (show keptNames L = (ns, 0) by rw [H.out, Hns.out, hqq, HK.out]; rfl)
        clear hqq
        go_wp2
        go_ret2
        exact RetSC.ok E.out Hn.out rfl rfl hs2 (hb2.trans (hbn.mono hs2))

end Go.Proofs.Ytgafjchbfbpmmaa
