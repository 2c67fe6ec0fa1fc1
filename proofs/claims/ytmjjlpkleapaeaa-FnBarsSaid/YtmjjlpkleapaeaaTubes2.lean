/- The walks of isClosed, l20Error, l20Code, TwiceArea, IsConvex (program and reference). -/
import Derived.Test.YtmjjlpkleapaeaaTubes
namespace Go.Proofs.Ytmjjlpkleapaeaa
open Go.RowKit

def closedT (L : List Tube) : Bool := sumX L == 0 && sumY L == 0

set_option maxHeartbeats 400000 in
theorem implClosed_any (w : World) (L : List Tube) (v : Value) (hv : Sl w 2 v L.length (tubeRow L)) (ht : areTubes L = true) :
    Calls Try.prog 46 #[v] w (RetB (closedT L) w) := by
  have Hv := Lib.hid hv
  clear hv
  go_enter Try.func46, Try.ntmps46
  go_wp2_with fail
  refine (implError_any w L v Hv.out ht).mono ?_
  rintro e w2 ⟨rfl, hb2⟩
  go_wp2
  all_goals
    go_ret
    exact RetB.ok (by simp [closedT, *]) hb2

set_option maxHeartbeats 400000 in
theorem specError_any (w : World) (L : List Tube) (v : Value) (hv : Sl w 2 v L.length (tubeRow L)) (ht : areTubes L = true) :
    Calls Try.prog 48 #[v] w fun e w' => e = .returned (.tuple #[.int .i64 (sumX L), .int .i64 (sumY L)]) ∧ w = w' := by
  obtain ⟨A, c, rfl, hl, hc, hr⟩ := hv
  have Hr := Lib.hid hr
  have h8 := (areTubes_iff ht).2.1
  clear hr hl hc
  go_enter Try.func48, Try.ntmps48
  go_wp2
  go_loop [4, 5, 6] (fun x y i => ∃ (k : Nat) (sx sy : Int), k ≤ L.length ∧ i = .int .i64 k ∧ x = .int .i64 sx ∧ y = .int .i64 sy ∧ sx = sumX (L.take k) ∧ sy = sumY (L.take k)) (fun _ _ i => L.length - (intOf i).toNat)
  case atStart => exact ⟨0, 0, 0, Nat.zero_le _, rfl, rfl, rfl, rfl, rfl⟩
  case round =>
    obtain ⟨k, sx, sy, hk, rfl, rfl, rfl, hx, hy⟩ := hrel
    have hbd := sums_bd8 ht hk
    rw [← hx, ← hy] at hbd
    have Hx := Lib.hid hx
    have Hy := Lib.hid hy
    clear hx hy
    by_cases hlt : k < L.length
    · obtain ⟨g, o, rfl, hg, c0, c1⟩ := Hr.out.tube hlt
      have ha := areTubes_at ht hlt
      go_wp2
      go_round
      case rel => exact ⟨k + 1, _, _, by omega, by go_num, rfl, rfl, by rw [sumX_take L hlt, ← Hx.out], by rw [sumY_take L hlt, ← Hy.out]⟩
      case measure => simp [intOf]; omega
    · have e1 : sx = sumX L := by rw [Hx.out, List.take_of_length_le (by omega)]
      have e2 : sy = sumY L := by rw [Hy.out, List.take_of_length_le (by omega)]
      have E1 := Lib.hid e1
      have E2 := Lib.hid e2
      clear e1 e2
      go_wp2
      go_ret2
      exact ⟨by rw [← E1.out, ← E2.out]; rfl, rfl⟩

def tubeCode (L : List Tube) : Int := if areTubes L = false then 1 else if closedT L = false then 5 else 0
theorem tubeCode_bad {L : List Tube} (h : areTubes L = false) : tubeCode L = 1 := by simp [tubeCode, h]
theorem tubeCode_open {L : List Tube} (h : areTubes L = true) (h2 : closedT L = false) : tubeCode L = 5 := by simp [tubeCode, h, h2]
theorem tubeCode_ok {L : List Tube} (h : areTubes L = true) (h2 : closedT L = true) : tubeCode L = 0 := by simp [tubeCode, h, h2]

set_option maxHeartbeats 400000 in
theorem specCode_any (w : World) (L : List Tube) (v : Value) (hv : Sl w 2 v L.length (tubeRow L)) (hn : L.length ≤ 4194304) :
    Calls Try.prog 44 #[v] w fun e w' => e = .returned (.int .i64 (tubeCode L)) ∧ w = w' := by
  have Hv := Lib.hid hv
  clear hv
  cases h1 : areTubes L
  · have H := Lib.hid (tubeCode_bad h1)
    go_enter Try.func44, Try.ntmps44
    go_wp2_with fail
    refine (specAreTubes_any w L v Hv.out hn).mono ?_
    rintro e w2 ⟨rfl, rfl⟩
    rw [h1]
    go_wp2
    go_ret
    exact ⟨retI H.out.symm, rfl⟩
  · cases hx : (sumX L != 0)
    · cases hy : (sumY L != 0)
      · have H := Lib.hid (tubeCode_ok h1 (by simp only [closedT, Bool.and_eq_true]; simp at hx hy; simp [hx, hy]))
        go_enter Try.func44, Try.ntmps44
        go_wp2_with fail
        refine (specAreTubes_any w L v Hv.out hn).mono ?_
        rintro e w2 ⟨rfl, rfl⟩
        rw [h1]
        go_wp2_with fail
        refine (specError_any w L v Hv.out h1).mono ?_
        rintro e w2 ⟨rfl, rfl⟩
        go_wp2
        go_ret
        exact ⟨retI H.out.symm, rfl⟩
      · have H := Lib.hid (tubeCode_open h1 (by simp only [closedT, Bool.and_eq_false_iff]; simp at hx hy; simp [hx, hy]))
        go_enter Try.func44, Try.ntmps44
        go_wp2_with fail
        refine (specAreTubes_any w L v Hv.out hn).mono ?_
        rintro e w2 ⟨rfl, rfl⟩
        rw [h1]
        go_wp2_with fail
        refine (specError_any w L v Hv.out h1).mono ?_
        rintro e w2 ⟨rfl, rfl⟩
        go_wp2
        go_ret
        exact ⟨retI H.out.symm, rfl⟩
    · have H := Lib.hid (tubeCode_open h1 (by simp only [closedT, Bool.and_eq_false_iff]; simp at hx; simp [hx]))
      go_enter Try.func44, Try.ntmps44
      go_wp2_with fail
      refine (specAreTubes_any w L v Hv.out hn).mono ?_
      rintro e w2 ⟨rfl, rfl⟩
      rw [h1]
      go_wp2_with fail
      refine (specError_any w L v Hv.out h1).mono ?_
      rintro e w2 ⟨rfl, rfl⟩
      go_wp2
      go_ret
      exact ⟨retI H.out.symm, rfl⟩

/-- A cell behind two stores elsewhere and a new block. -/
theorem cell_ssa {w : World} {p q a : Addr} {x : Value} (h : w.cell? a = some x) (hp : p.block ≠ a.block) (hq : q.block ≠ a.block) (u v : Value) (o : Obj) : (((w.setCell p u).setCell q v).alloc o).cell? a = some x := by
  rw [World.cell?_alloc_lt _ _ _ (by have := World.block_lt_of_cell? w a h; simpa [World.setCell] using this)]
  rw [World.cell?_setCell_other _ _ _ _ (fun e => hq (by rw [e])), World.cell?_setCell_other _ _ _ _ (fun e => hp (by rw [e]))]
  exact h

/-! ### Twice the area -/
theorem mul_bd {a b : Int} {A B : Nat} (ha : -(A : Int) ≤ a ∧ a ≤ A) (hb : -(B : Int) ≤ b ∧ b ≤ B) : -((A * B : Nat) : Int) ≤ a * b ∧ a * b ≤ ((A * B : Nat) : Int) := by
  have h : (a * b).natAbs ≤ A * B := by rw [Int.natAbs_mul]; exact Nat.mul_le_mul (by omega) (by omega)
  generalize a * b = x at h
  generalize A * B = y at h
  omega
def areaT (L : List Tube) : Nat → Int
  | 0 => 0
  | k + 1 => areaT L k + (sumX (L.take k) * (tubeAt L k).y - sumY (L.take k) * (tubeAt L k).x)
theorem areaT_one (L : List Tube) : areaT L 1 = 0 := by simp [areaT, sumX, sumY]
theorem term_bd {L : List Tube} (h : areTubes L = true) {k i : Nat} (hk : k ≤ L.length) (hi : i < L.length) :
    (-32000000 ≤ sumX (L.take k) * (tubeAt L i).y ∧ sumX (L.take k) * (tubeAt L i).y ≤ 32000000) ∧ (-32000000 ≤ sumY (L.take k) * (tubeAt L i).x ∧ sumY (L.take k) * (tubeAt L i).x ≤ 32000000) := by
  have h1 := sums_bd8 h hk
  have h2 := areTubes_at h hi
  have e1 := mul_bd (a := sumX (L.take k)) (b := (tubeAt L i).y) (A := 16000) (B := 2000) ⟨by omega, by omega⟩ ⟨by omega, by omega⟩
  have e2 := mul_bd (a := sumY (L.take k)) (b := (tubeAt L i).x) (A := 16000) (B := 2000) ⟨by omega, by omega⟩ ⟨by omega, by omega⟩
  exact ⟨by omega, by omega⟩
theorem areaT_bd {L : List Tube} (h : areTubes L = true) : ∀ k, k ≤ L.length → -64000000 * (k : Int) ≤ areaT L k ∧ areaT L k ≤ 64000000 * k := by
  intro k
  induction k with
  | zero => intro _; simp [areaT]
  | succ k ih =>
    intro hk
    have h1 := ih (by omega)
    have h2 := term_bd h (k := k) (i := k) (by omega) (by omega)
    rw [areaT]
    omega
def twiceAreaF (L : List Tube) : Int × Int := if tubeCode L = 0 then (areaT L L.length, 0) else (0, tubeCode L)
theorem tubeCode_zero {L : List Tube} (h : tubeCode L = 0) : areTubes L = true ∧ closedT L = true := by
  unfold tubeCode at h
  cases h1 : areTubes L <;> cases h2 : closedT L <;> simp_all

set_option maxHeartbeats 1600000 in
theorem specTwiceArea_any (w : World) (L : List Tube) (v : Value) (hv : Sl w 2 v L.length (tubeRow L)) (_ : tubeFit L) (hn : L.length ≤ 4194304) :
    Calls Try.prog 16 #[v] w (RetIC (twiceAreaF L) w) := by
  have Hv := Lib.hid hv
  by_cases h0 : tubeCode L = 0
  · have H := Lib.hid (show twiceAreaF L = (areaT L L.length, 0) by simp [twiceAreaF, h0])
    have ht := (tubeCode_zero h0).1
    have h8 := (areTubes_iff ht).2.1
    obtain ⟨A, c, rfl, hl, hc, hr⟩ := hv
    have Hr := Lib.hid hr
    clear hr hl hc
    go_enter Try.func16, Try.ntmps16
    go_wp2_with fail
    refine (specCode_any w L _ Hv.out hn).mono ?_
    rintro e w2 ⟨rfl, rfl⟩
    rw [h0]
    clear h0
    go_wp2
    go_loopw [5, 6, 7, 8] (fun a x y i wr => ∃ (k : Nat) (z sx sy : Int), k ≤ L.length ∧ i = .int .i64 k ∧ a = .int .i64 z ∧ x = .int .i64 sx ∧ y = .int .i64 sy ∧ z = areaT L k ∧ sx = sumX (L.take k) ∧ sy = sumY (L.take k) ∧ Below w.heap.size w wr) (fun _ _ _ i _ => L.length - (intOf i).toNat)
    case atStart => exact ⟨0, 0, 0, 0, Nat.zero_le _, rfl, rfl, rfl, rfl, rfl, rfl, rfl, Below.refl _ _⟩
    case round =>
      obtain ⟨k, z, sx, sy, hk, rfl, rfl, rfl, rfl, hz, hx, hy, hb⟩ := hrel
      by_cases hlt : k < L.length
      · have hbd := sums_bd8 ht hk
        have htm := term_bd ht hk hlt
        have hza := areaT_bd ht k hk
        rw [← hx, ← hy] at hbd htm
        rw [← hz] at hza
        have Hx := Lib.hid hx
        have Hy := Lib.hid hy
        have Hz := Lib.hid hz
        clear hx hy hz
        obtain ⟨g, o, rfl, hg, c0, c1⟩ := (Hr.out.below hb (Nat.le_refl _)).tube hlt
        have ha := areTubes_at ht hlt
        have i0 : (0 : Int) ≤ (k : Int) := Int.natCast_nonneg _
        have i1 : (k : Int) < (L.length : Int) := by omega
        go_wp2
        go_quiet (fail)
        go_wp2
        go_roundw
        case rel => exact ⟨k + 1, z + sx * (tubeAt L k).y - sy * (tubeAt L k).x, _, _, by omega, by go_num, rfl, rfl, rfl, by rw [areaT, ← Hx.out, ← Hy.out, ← Hz.out]; omega, by rw [sumX_take L hlt, ← Hx.out], by rw [sumY_take L hlt, ← Hy.out], below_drewN hb _⟩
        case measure => simp [intOf]; omega
      · have Hz := Lib.hid hz
        clear hx hy hz
        go_wp2
        go_ret2
        exact RetIC.ok (by rw [H.out, Hz.out, show k = L.length by omega]) hb
  · have H := Lib.hid (show twiceAreaF L = (0, tubeCode L) by simp [twiceAreaF, h0])
    have t0 : (tubeCode L != 0) = true := by simpa using h0
    clear h0 hv
    go_enter Try.func16, Try.ntmps16
    go_wp2_with fail
    refine (specCode_any w L _ Hv.out hn).mono ?_
    rintro e w2 ⟨rfl, rfl⟩
    go_wp2
    go_ret2
    exact RetIC.ok H.out (Below.refl _ _)

set_option maxHeartbeats 1600000 in
theorem implTwiceArea_any (w : World) (L : List Tube) (v : Value) (hv : Sl w 2 v L.length (tubeRow L)) (_ : tubeFit L) (hn : L.length ≤ 4194304) :
    Calls Try.prog 17 #[v] w (RetIC (twiceAreaF L) w) := by
  have Hv := Lib.hid hv
  cases h1 : areTubes L
  · clear hv
    have H := Lib.hid (show twiceAreaF L = (0, 1) by simp [twiceAreaF, tubeCode_bad h1])
    go_enter Try.func17, Try.ntmps17
    go_wp2_with fail
    refine (implAreTubes_any w L _ Hv.out hn).mono ?_
    rintro e w2 ⟨rfl, hb2⟩
    rw [h1]
    go_wp2
    go_ret2
    exact RetIC.ok H.out hb2
  · cases h2 : closedT L
    · clear hv
      have H := Lib.hid (show twiceAreaF L = (0, 5) by simp [twiceAreaF, tubeCode_open h1 h2])
      go_enter Try.func17, Try.ntmps17
      go_wp2_with fail
      refine (implAreTubes_any w L _ Hv.out hn).mono ?_
      rintro e w2 ⟨rfl, hb2⟩
      rw [h1]
      go_wp2_with fail
      refine (implClosed_any w2 L _ (Hv.out.below hb2) h1).mono ?_
      rintro e w3 ⟨rfl, hb3⟩
      rw [h2]
      go_wp2
      go_ret2
      exact RetIC.ok H.out (hb2.trans (hb3.mono hb2.size))
    · have H := Lib.hid (show twiceAreaF L = (areaT L L.length, 0) by simp [twiceAreaF, tubeCode_ok h1 h2])
      have h8 := (areTubes_iff h1).2.1
      have h3 := (areTubes_iff h1).1
      obtain ⟨A, c, rfl, hl, hc, hr⟩ := hv
      unfold maxLen at hc
      have Hr := Lib.hid hr
      clear hr
      have i2 : (0 : Int) ≤ (L.length : Int) - 1 := by omega
      have i3 : (L.length : Int) - 1 ≤ (c : Int) := by omega
      go_enter Try.func17, Try.ntmps17
      go_wp2_with fail
      refine (implAreTubes_any w L _ Hv.out hn).mono ?_
      rintro e w2 ⟨rfl, hb2⟩
      rw [h1]
      go_wp2_with fail
      refine (implClosed_any w2 L _ (Hv.out.below hb2) h1).mono ?_
      rintro e w3 ⟨rfl, hb3⟩
      rw [h2]
      have b3 := hb2.trans (hb3.mono hb2.size)
      go_wp2
      go_loopw [4, 21] (fun a i wr => ∃ (k : Nat) (z cx cy : Int), k + 1 ≤ L.length ∧ i = .int .i64 k ∧ a = .int .i64 z ∧ z = areaT L (k + 1) ∧ cx = sumX (L.take k) ∧ cy = sumY (L.take k) ∧ Blk wr w3.heap.size 54 #[.int .i64 cx, .int .i64 cy] ∧ Below w.heap.size w wr ∧ w3.heap.size < wr.heap.size) (fun _ i _ => L.length - (intOf i).toNat)
      case atStart => exact ⟨0, 0, 0, 0, by omega, rfl, rfl, (areaT_one L).symm, rfl, rfl, Blk.new _ _ _, b3.alloc b3.size _, by simp⟩
      case round =>
        obtain ⟨k, z, cx, cy, hk, rfl, rfl, hz, hx, hy, hB, hb, hsz3⟩ := hrel
        have hsz := hb.size
        have hw3 := b3.size
        by_cases hlt : k < L.length - 1
        · have hk1 : k + 1 < L.length := by omega
          have hbd := sums_bd8 h1 (k := k) (by omega)
          have hbd2 := sums_bd8 h1 (k := k + 1) (by omega)
          have htm := term_bd h1 (k := k + 1) (i := k + 1) (by omega) hk1
          have hza := areaT_bd h1 (k + 1) (by omega)
          rw [sumX_take L (by omega), sumY_take L (by omega), ← hx, ← hy] at hbd2 htm
          rw [← hx, ← hy] at hbd
          rw [← hz] at hza
          have Hx := Lib.hid hx
          have Hy := Lib.hid hy
          have Hz := Lib.hid hz
          have HB := Lib.hid hB
          clear hx hy hz hB
          obtain ⟨g, o, rfl, hg, c0, c1⟩ := (Hr.out.below hb (Nat.le_refl _)).tube (k := k) (by omega)
          obtain ⟨g2, o2, hA, hg2, e0, e1⟩ := (Hr.out.below hb (Nat.le_refl _)).tube (k := k + 1) hk1
          injection hA with hA
          injection hA with hA1 hA2
          subst hA1
          subst hA2
          have ha := areTubes_at h1 (i := k) (by omega)
          have ha2 := areTubes_at h1 (i := k + 1) hk1
          have p0 := HB.out.cell 0
          have p1 := HB.out.cell 1
          have q0 := HB.out.frozen 0
          have q1 := HB.out.frozen 1
          have d0 := fun o => HB.out.cell' 0 o
          have d1 := fun o => HB.out.cell' 1 o
          have f0 := fun o => HB.out.frozen' 0 o
          have f1 := fun o => HB.out.frozen' 1 o
          simp only [List.getElem?_toArray, List.getElem?_cons_zero, List.getElem?_cons_succ] at d0 d1 p0 p1
          have i0 : (0 : Int) ≤ (k : Int) := Int.natCast_nonneg _
          have i1 : (k : Int) + 1 < (L.length : Int) := by omega
          have E0 := fun u v x => cell_ssa (p := ⟨w3.heap.size, 0, none⟩) (q := ⟨w3.heap.size, 1, none⟩) e0 (by show w3.heap.size ≠ g; omega) (by show w3.heap.size ≠ g; omega) u v x
          have E1 := fun u v x => cell_ssa (p := ⟨w3.heap.size, 0, none⟩) (q := ⟨w3.heap.size, 1, none⟩) e1 (by show w3.heap.size ≠ g; omega) (by show w3.heap.size ≠ g; omega) u v x
          go_wp2
          go_roundw
          case rel => exact ⟨k + 1, _, _, _, by omega, by go_num, rfl, by rw [areaT, sumX_take L (by omega), sumY_take L (by omega), ← Hx.out, ← Hy.out, ← Hz.out], by rw [sumX_take L (by omega), ← Hx.out], by rw [sumY_take L (by omega), ← Hy.out],
            (((HB.out.set 0 _).set 1 _).alloc _).alloc _, (((hb.setCell hw3 _).setCell hw3 _).alloc (by simp [World.setCell]; omega) _).alloc (by simp [World.setCell]; omega) _, by simp [World.setCell]; omega⟩
          case measure => simp [intOf]; omega
        · have Hz := Lib.hid hz
          clear hx hy hz hB
          go_wp2
          go_ret2
          exact RetIC.ok (by rw [H.out, Hz.out, show k + 1 = L.length by omega]) hb

end Go.Proofs.Ytmjjlpkleapaeaa
