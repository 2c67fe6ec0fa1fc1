/- How long tubes are: the walks of lengthsOf, l20Lengths, LengthsOf. -/
import Derived.Test.YtmjjlpkleapaeaaTubes2
import Derived.Test.YtmjjlpkleapaeaaRoot
import Derived.Test.YtmjjlpkleapaeaaApp
import Derived.Test.YtmjjlpkleapaeaaInts
namespace Go.Proofs.Ytmjjlpkleapaeaa
open Go.RowKit

def sqT (t : Tube) : Int := t.x * t.x + t.y * t.y
noncomputable def lenT (t : Tube) : Int := rootUp (sqT t)
noncomputable def lensN (L : List Tube) (k : Nat) : List Int := (List.range k).map fun i => lenT (tubeAt L i)
theorem lensN_len (L : List Tube) (k : Nat) : (lensN L k).length = k := by simp [lensN]
theorem lensN_succ (L : List Tube) (k : Nat) : lensN L (k + 1) = lensN L k ++ [lenT (tubeAt L k)] := by simp [lensN, List.range_succ]
theorem lensN_at (L : List Tube) {k i : Nat} (h : i < k) : intsAt (lensN L k) i = lenT (tubeAt L i) := by simp [lensN, intsAt, List.getD, h]
theorem sq_nonneg (a : Int) : 0 ≤ a * a := by
  rcases Int.le_total 0 a with h | h
  · exact Int.mul_nonneg h h
  · exact Int.mul_nonneg_of_nonpos_of_nonpos h h
theorem sqT_bd {L : List Tube} (h : areTubes L = true) {i : Nat} (hi : i < L.length) :
    (0 ≤ (tubeAt L i).x * (tubeAt L i).x ∧ (tubeAt L i).x * (tubeAt L i).x ≤ 4000000) ∧ (0 ≤ (tubeAt L i).y * (tubeAt L i).y ∧ (tubeAt L i).y * (tubeAt L i).y ≤ 4000000) ∧ 0 < (tubeAt L i).x * (tubeAt L i).x + (tubeAt L i).y * (tubeAt L i).y := by
  have h1 := areTubes_at h hi
  have e1 := mul_bd (a := (tubeAt L i).x) (b := (tubeAt L i).x) (A := 2000) (B := 2000) ⟨by omega, by omega⟩ ⟨by omega, by omega⟩
  have e2 := mul_bd (a := (tubeAt L i).y) (b := (tubeAt L i).y) (A := 2000) (B := 2000) ⟨by omega, by omega⟩ ⟨by omega, by omega⟩
  have s1 := sq_nonneg (tubeAt L i).x
  have s2 := sq_nonneg (tubeAt L i).y
  have hk := (areTubes_iff h).2.2 i hi
  refine ⟨⟨s1, by omega⟩, ⟨s2, by omega⟩, ?_⟩
  by_cases hx : (tubeAt L i).x = 0
  · have hy : (tubeAt L i).y ≠ 0 := by
      intro hy
      simp [tubeOk, hx, hy] at hk
    have : (tubeAt L i).y * (tubeAt L i).y ≠ 0 := Int.mul_ne_zero hy hy
    omega
  · have : (tubeAt L i).x * (tubeAt L i).x ≠ 0 := Int.mul_ne_zero hx hx
    omega

set_option maxHeartbeats 1600000 in
theorem implLengths_any (w : World) (L : List Tube) (v : Value) (hv : Sl w 2 v L.length (tubeRow L)) (h1 : areTubes L = true) :
    Calls Try.prog 52 #[v] w fun e w' => (∀ i, i < L.length → 1 ≤ lenT (tubeAt L i) ∧ lenT (tubeAt L i) ≤ 2829) ∧ Gives w.heap.size 2 1 L.length (intsRow (lensN L L.length)) w e w' := by
  have h8 := (areTubes_iff h1).2.1
  obtain ⟨A, c, rfl, hl, hc, hr⟩ := hv
  have Hr := Lib.hid hr
  clear hr hl hc
  obtain ⟨i0, hi, hz0, hz1, hz2⟩ := info_parts Try.info_ints
  go_enter Try.func52, Try.ntmps52
  go_wp2
  go_loopw [3, 10] (fun s i wr => ∃ (k : Nat) (Ao : Option Addr) (co : Nat), k ≤ L.length ∧ i = .int .i64 k ∧ s = .slice Ao k co ∧ (∀ i, i < k → 1 ≤ lenT (tubeAt L i) ∧ lenT (tubeAt L i) ≤ 2829) ∧
      wr.ownsRow w.heap.size 2 1 (.slice Ao k co) k (intsRow (lensN L k)) ∧ Below w.heap.size w wr) (fun _ i _ => L.length - (intOf i).toNat)
  case atStart => exact ⟨0, none, 0, Nat.zero_le _, rfl, rfl, fun i h => absurd h (by omega), World.ownsRow_nil _ _ _ _, Below.refl _ _⟩
  case round =>
    obtain ⟨k, Ao, co, hk, rfl, rfl, hbd, ho, hb⟩ := hrel
    have Hbd := Lib.hid hbd
    have Ho := Lib.hid ho
    clear ho hbd
    have hsz := hb.size
    by_cases hlt : k < L.length
    · obtain ⟨g, o, rfl, hg, c0, c1⟩ := (Hr.out.below hb (Nat.le_refl _)).tube (k := k) (by omega)
      have htb := sqT_bd h1 hlt
      have i0' : (0 : Int) ≤ (k : Int) := Int.natCast_nonneg _
      have i1 : (k : Int) < (L.length : Int) := by omega
      have hsq : sqT (tubeAt L k) = (tubeAt L k).x * (tubeAt L k).x + (tubeAt L k).y * (tubeAt L k).y := rfl
      obtain ⟨n, hn⟩ : ∃ n, n = (tubeAt L k).x * (tubeAt L k).x + (tubeAt L k).y * (tubeAt L k).y := ⟨_, rfl⟩
      go_wp2_with fail
      rw [← hn]
      refine (implRoot_any _ n (by omega) (by omega)).mono ?_
      rintro e w2 ⟨r, rfl, hr, hw2⟩
      cases hw2
      have hr0 := hr.1
      have hr1 := hr.2.1
      have hru := rootUp_bd (n := n) (by omega) (by omega) ⟨r, hr⟩
      have sq0 := sq_le (a := 0) (b := r) (by omega) (by omega)
      have hn8 : n ≤ 8000000 := by omega
      rw [hn, ← hsq] at hru
      have Hru := Lib.hid (show 1 ≤ lenT (tubeAt L k) ∧ lenT (tubeAt L k) ≤ 2829 from hru)
      have Hrb := Lib.hid (hr.le (b := 2828) (by omega) (by omega))
      clear hru
      by_cases hc : r * r < n
      · have H := Lib.hid (hr.up_lt hc)
        rw [hn, ← hsq] at H
        have hrb := Hrb.out
        clear hr hn hsq
        go_wp2_with (at_builtin; refine wpList_append_sl _ rfl (.tmp 34) (.tmp 36) _ rfl w.heap.size 2 i0 _ 1 8 Try.underlying35 hi hz0 hz1 hz2 rfl (by omega) _ k (intsRow (lensN L k)) rfl ((Ho.out.alloc _).alloc _) (some ⟨wr.heap.size + 1, 0, none⟩) 1 1 [.int .i64 (r + 1)] rfl (Rd.of_block (cs := #[.int .i64 (r + 1)]) (heap_alloc2_new wr _ _) rfl) (by intro x hx; simp at hx; subst hx; rfl) (by unfold maxLen; omega) (by omega) (by simp; omega) ?_; intro A9 c9 w9 ho9 hg9 hor9)
        have b9 : Below w.heap.size w w9 := ((hb.alloc hsz _).alloc (by simp; omega) _).grown hg9 (by simp; omega) (fun q hq => (World.ownsRow.lt Ho.out q hq).1)
        rw [← H.out] at ho9
        have Ho9 := Lib.hid ho9
        clear ho9 hg9 hor9
        go_roundw
        case rel =>
          refine ⟨k + 1, A9, c9, by omega, by go_num, rfl, fun i hi => ?_, ?_, b9⟩
          · by_cases e : i = k
            · subst e; exact Hru.out
            · exact Hbd.out i (by omega)
          · rw [lensN_succ, intsRow_append]; exact Ho9.out
        case measure => simp [intOf]; omega
      · have H := Lib.hid (hr.up_eq hc)
        rw [hn, ← hsq] at H
        have hrb := Hrb.out
        clear hr hn hsq
        go_wp2_with (at_builtin; refine wpList_append_sl _ rfl (.tmp 34) (.tmp 36) _ rfl w.heap.size 2 i0 _ 1 8 Try.underlying35 hi hz0 hz1 hz2 rfl (by omega) _ k (intsRow (lensN L k)) rfl ((Ho.out.alloc _).alloc _) (some ⟨wr.heap.size + 1, 0, none⟩) 1 1 [.int .i64 r] rfl (Rd.of_block (cs := #[.int .i64 r]) (heap_alloc2_new wr _ _) rfl) (by intro x hx; simp at hx; subst hx; rfl) (by unfold maxLen; omega) (by omega) (by simp; omega) ?_; intro A9 c9 w9 ho9 hg9 hor9)
        have b9 : Below w.heap.size w w9 := ((hb.alloc hsz _).alloc (by simp; omega) _).grown hg9 (by simp; omega) (fun q hq => (World.ownsRow.lt Ho.out q hq).1)
        rw [← H.out] at ho9
        have Ho9 := Lib.hid ho9
        clear ho9 hg9 hor9
        go_roundw
        case rel =>
          refine ⟨k + 1, A9, c9, by omega, by go_num, rfl, fun i hi => ?_, ?_, b9⟩
          · by_cases e : i = k
            · subst e; exact Hru.out
            · exact Hbd.out i (by omega)
          · rw [lensN_succ, intsRow_append]; exact Ho9.out
        case measure => simp [intOf]; omega
    · have Ho' := Ho
      clear Ho'
      go_wp2
      go_ret
      have : k = L.length := by omega
      subst this
      exact ⟨Hbd.out, _, rfl, Ho.out, hb⟩

set_option maxHeartbeats 1600000 in
theorem specLengths_any (w : World) (L : List Tube) (v : Value) (hv : Sl w 2 v L.length (tubeRow L)) (h1 : areTubes L = true) :
    Calls Try.prog 51 #[v] w fun e w' => (∀ i, i < L.length → 1 ≤ lenT (tubeAt L i) ∧ lenT (tubeAt L i) ≤ 2829) ∧ Gives w.heap.size 2 1 L.length (intsRow (lensN L L.length)) w e w' := by
  have h8 := (areTubes_iff h1).2.1
  obtain ⟨A, c, rfl, hl, hc, hr⟩ := hv
  have Hr := Lib.hid hr
  clear hr hl hc
  obtain ⟨i0, hi, hz0, hz1, hz2⟩ := info_parts Try.info_ints
  go_enter Try.func51, Try.ntmps51
  go_wp2
  go_loopw [3, 4] (fun s i wr => ∃ (k : Nat) (Ao : Option Addr) (co : Nat), k ≤ L.length ∧ i = .int .i64 k ∧ s = .slice Ao k co ∧ (∀ i, i < k → 1 ≤ lenT (tubeAt L i) ∧ lenT (tubeAt L i) ≤ 2829) ∧
      wr.ownsRow w.heap.size 2 1 (.slice Ao k co) k (intsRow (lensN L k)) ∧ Below w.heap.size w wr) (fun _ i _ => L.length - (intOf i).toNat)
  case atStart => exact ⟨0, some ⟨w.heap.size, 0, none⟩, 0, Nat.zero_le _, rfl, rfl, fun i h => absurd h (by omega), own_empty _ _ _ (Nat.le_refl _), (Below.refl _ _).alloc (Nat.le_refl _) _⟩
  case round =>
    obtain ⟨k, Ao, co, hk, rfl, rfl, hbd, ho, hb⟩ := hrel
    have Hbd := Lib.hid hbd
    have Ho := Lib.hid ho
    clear ho hbd
    have hsz := hb.size
    by_cases hlt : k < L.length
    · obtain ⟨g, o, rfl, hg, c0, c1⟩ := (Hr.out.below hb (Nat.le_refl _)).tube (k := k) (by omega)
      have htb := sqT_bd h1 hlt
      have i0' : (0 : Int) ≤ (k : Int) := Int.natCast_nonneg _
      have i1 : (k : Int) < (L.length : Int) := by omega
      have m1 : IntKind.i64.wrap ((tubeAt L k).x * (tubeAt L k).x) = (tubeAt L k).x * (tubeAt L k).x := by rw [IntKind.wrap_i64]; omega
      have m2 : IntKind.i64.wrap ((tubeAt L k).y * (tubeAt L k).y) = (tubeAt L k).y * (tubeAt L k).y := by rw [IntKind.wrap_i64]; omega
      have m3 : IntKind.i64.wrap ((tubeAt L k).x * (tubeAt L k).x + (tubeAt L k).y * (tubeAt L k).y) = (tubeAt L k).x * (tubeAt L k).x + (tubeAt L k).y * (tubeAt L k).y := by rw [IntKind.wrap_i64]; omega
      go_wp2_with fail
      go_region_held3 (fun w' => w'.cell? ⟨g, o + k * 2, none⟩ = some (.int .i64 (tubeAt L k).x) ∧ w'.cell? ⟨g, o + k * 2 + 1, none⟩ = some (.int .i64 (tubeAt L k).y)) (first | (go_keep; done) | (go_split_ands; refine ⟨?_, ?_⟩ <;> (rw [hg9.cell_far _ (by simp; omega) (own_apart Ho.out hg)]; assumption)))
        (first
          | (go_at_call 63; refine (specRootUp_any _ _ (by omega) (by omega)).mono ?_; rintro e w2 ⟨rfl, hx, hw2⟩; cases hw2)
          | (refine step_append_sl _ (by rfl) (.tmp 12) (.tmp 37) _ (by rfl) w.heap.size 2 i0 _ 1 8 Try.underlying35 hi hz0 hz1 hz2 rfl (by omega) (.slice Ao k co) k (intsRow (lensN L k)) (by rfl) (Ho.out.drew.alloc _) (some ⟨wr.heap.size, 0, none⟩) 1 1 [.int .i64 (lenT (tubeAt L k))] (by rfl) (Rd.of_block (cs := #[.int .i64 (lenT (tubeAt L k))]) (heap_alloc_new _ _) rfl) (by intro x hx; simp at hx; subst hx; rfl) (by unfold maxLen; omega) (by omega) (by simp; omega) ?_; intro A9 c9 w9 ho9 hg9 hor9))
      all_goals
        have b9 : Below w.heap.size w w9 := (hb.drew.alloc hsz _).grown hg9 (by simp; omega) (fun q hq => (World.ownsRow.lt Ho.out q hq).1)
        have Ho9 := Lib.hid ho9
        have hru := rootUp_bd (n := sqT (tubeAt L k)) (by show 0 < (tubeAt L k).x * (tubeAt L k).x + (tubeAt L k).y * (tubeAt L k).y; omega) (by show (tubeAt L k).x * (tubeAt L k).x + (tubeAt L k).y * (tubeAt L k).y ≤ _; omega) hx
        have Hru := Lib.hid (show 1 ≤ lenT (tubeAt L k) ∧ lenT (tubeAt L k) ≤ 2829 from hru)
        clear ho9 hg9 hor9 hru
        go_wp2
        go_roundw
        case rel =>
          refine ⟨k + 1, A9, c9, by omega, by go_num, rfl, fun i hi => ?_, ?_, b9⟩
          · by_cases e : i = k
            · subst e; exact Hru.out
            · exact Hbd.out i (by omega)
          · rw [lensN_succ, intsRow_append]; exact Ho9.out
        case measure => simp [intOf]; omega
    · go_wp2
      go_ret
      have : k = L.length := by omega
      subst this
      exact ⟨Hbd.out, _, rfl, Ho.out, hb⟩

noncomputable def lengthsF (L : List Tube) : List Int × Int := if areTubes L = true then (lensN L L.length, 0) else ([], 1)
theorem lengthsF_len (L : List Tube) : (lengthsF L).1.length ≤ 4194304 := by
  unfold lengthsF
  split
  · rename_i h; have := (areTubes_iff h).2.1; simp [lensN_len]; omega
  · simp

set_option maxHeartbeats 1600000 in
theorem implLengthsOf_any (w : World) (L : List Tube) (v : Value) (hv : Sl w 2 v L.length (tubeRow L)) (_ : tubeFit L) (hn : L.length ≤ 4194304) :
    Calls Try.prog 23 #[v] w (RetSC w.heap.size 2 1 intsRow (lengthsF L) w) := by
  have Hv := Lib.hid hv
  clear hv
  cases h1 : areTubes L
  · have H := Lib.hid (show lengthsF L = ([], 1) by simp [lengthsF, h1])
    go_enter Try.func23, Try.ntmps23
    go_wp2_with fail
    refine (implAreTubes_any w L _ Hv.out hn).mono ?_
    rintro e w2 ⟨rfl, hb2⟩
    rw [h1]
    go_wp2
    go_ret2
    exact RetSC.err H.out rfl hb2
  · have H := Lib.hid (show lengthsF L = (lensN L L.length, 0) by simp [lengthsF, h1])
    go_enter Try.func23, Try.ntmps23
    go_wp2_with fail
    refine (implAreTubes_any w L _ Hv.out hn).mono ?_
    rintro e w2 ⟨rfl, hb2⟩
    rw [h1]
    go_wp2_with fail
    refine (implLengths_any w2 L _ (Hv.out.below hb2) h1).mono ?_
    rintro e w3 ⟨_, y, rfl, ho, hb3⟩
    have Ho := Lib.hid ho
    clear ho
    go_wp2
    go_ret2
    exact RetSC.ok H.out Ho.out (by simp [lensN_len]) rfl hb2.size (hb2.trans (hb3.mono hb2.size))

set_option maxHeartbeats 1600000 in
theorem specLengthsOf_any (w : World) (L : List Tube) (v : Value) (hv : Sl w 2 v L.length (tubeRow L)) (_ : tubeFit L) (hn : L.length ≤ 4194304) :
    Calls Try.prog 22 #[v] w (RetSC w.heap.size 2 1 intsRow (lengthsF L) w) := by
  have Hv := Lib.hid hv
  clear hv
  cases h1 : areTubes L
  · have H := Lib.hid (show lengthsF L = ([], 1) by simp [lengthsF, h1])
    go_enter Try.func22, Try.ntmps22
    go_wp2_with fail
    refine (specAreTubes_any w L _ Hv.out hn).mono ?_
    rintro e w2 ⟨rfl, hb2⟩
    have hb2 : Below w.heap.size w w2 := hb2 ▸ Below.refl _ _
    rw [h1]
    go_wp2
    go_ret2
    exact RetSC.err H.out rfl hb2
  · have H := Lib.hid (show lengthsF L = (lensN L L.length, 0) by simp [lengthsF, h1])
    go_enter Try.func22, Try.ntmps22
    go_wp2_with fail
    refine (specAreTubes_any w L _ Hv.out hn).mono ?_
    rintro e w2 ⟨rfl, hb2⟩
    have hb2 : Below w.heap.size w w2 := hb2 ▸ Below.refl _ _
    rw [h1]
    go_wp2_with fail
    refine (specLengths_any w2 L _ (Hv.out.below hb2) h1).mono ?_
    rintro e w3 ⟨_, y, rfl, ho, hb3⟩
    have Ho := Lib.hid ho
    clear ho
    go_wp2
    go_ret2
    exact RetSC.ok H.out Ho.out (by simp [lensN_len]) rfl hb2.size (hb2.trans (hb3.mono hb2.size))

end Go.Proofs.Ytmjjlpkleapaeaa
