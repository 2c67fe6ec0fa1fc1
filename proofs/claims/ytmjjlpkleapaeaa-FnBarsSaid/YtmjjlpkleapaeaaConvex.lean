/- The walks of IsConvex, in the program and in the reference. -/
import Derived.Test.YtmjjlpkleapaeaaTubes2
namespace Go.Proofs.Ytmjjlpkleapaeaa
open Go.RowKit

def turnT (L : List Tube) (i : Nat) : Int := (tubeAt L i).x * (tubeAt L ((i + 1) % L.length)).y - (tubeAt L i).y * (tubeAt L ((i + 1) % L.length)).x
def allUp (L : List Tube) (k : Nat) : Bool := (List.range k).all fun i => decide (0 < turnT L i)
def allDown (L : List Tube) (k : Nat) : Bool := (List.range k).all fun i => decide (turnT L i < 0)
theorem allUp_succ (L : List Tube) (k : Nat) : allUp L (k + 1) = (allUp L k && decide (0 < turnT L k)) := by simp [allUp, List.range_succ]
theorem allDown_succ (L : List Tube) (k : Nat) : allDown L (k + 1) = (allDown L k && decide (turnT L k < 0)) := by simp [allDown, List.range_succ]
def convexF (L : List Tube) : Bool × Int := if tubeCode L = 0 then (allUp L L.length || allDown L L.length, 0) else (false, tubeCode L)
theorem turn_bd {L : List Tube} (h : areTubes L = true) {i j : Nat} (hi : i < L.length) (hj : j < L.length) :
    (-4000000 ≤ (tubeAt L i).x * (tubeAt L j).y ∧ (tubeAt L i).x * (tubeAt L j).y ≤ 4000000) ∧ (-4000000 ≤ (tubeAt L i).y * (tubeAt L j).x ∧ (tubeAt L i).y * (tubeAt L j).x ≤ 4000000) := by
  have h1 := areTubes_at h hi
  have h2 := areTubes_at h hj
  have e1 := mul_bd (a := (tubeAt L i).x) (b := (tubeAt L j).y) (A := 2000) (B := 2000) ⟨by omega, by omega⟩ ⟨by omega, by omega⟩
  have e2 := mul_bd (a := (tubeAt L i).y) (b := (tubeAt L j).x) (A := 2000) (B := 2000) ⟨by omega, by omega⟩ ⟨by omega, by omega⟩
  exact ⟨by omega, by omega⟩
theorem valB {a b : Bool} (h : a = b) : Value.bool a = .bool b := by rw [h]

set_option maxHeartbeats 3200000 in
theorem implIsConvex_any (w : World) (L : List Tube) (v : Value) (hv : Sl w 2 v L.length (tubeRow L)) (_ : tubeFit L) (hn : L.length ≤ 4194304) :
    Calls Try.prog 14 #[v] w (RetBC (convexF L) w) := by
  have Hv := Lib.hid hv
  cases h1 : areTubes L
  · clear hv
    have H := Lib.hid (show convexF L = (false, 1) by simp [convexF, tubeCode_bad h1])
    go_enter Try.func14, Try.ntmps14
    go_wp2_with fail
    refine (implAreTubes_any w L _ Hv.out hn).mono ?_
    rintro e w2 ⟨rfl, hb2⟩
    rw [h1]
    go_wp2
    go_ret2
    exact RetBC.ok H.out hb2
  · cases h2 : closedT L
    · clear hv
      have H := Lib.hid (show convexF L = (false, 5) by simp [convexF, tubeCode_open h1 h2])
      go_enter Try.func14, Try.ntmps14
      go_wp2_with fail
      refine (implAreTubes_any w L _ Hv.out hn).mono ?_
      rintro e w2 ⟨rfl, hb2⟩
      rw [h1]
      go_wp2_with fail
      refine (implClosed_any w2 L _ (Hv.out.below hb2) h1).mono ?_
      rintro e w3 ⟨rfl, hb3⟩
      rw [h2]
      go_wp2
      go_ret2
      exact RetBC.ok H.out (hb2.trans (hb3.mono hb2.size))
    · have H := Lib.hid (show convexF L = (allUp L L.length || allDown L L.length, 0) by simp [convexF, tubeCode_ok h1 h2])
      have h8 := (areTubes_iff h1).2.1
      have h3 := (areTubes_iff h1).1
      obtain ⟨A, c, rfl, hl, hc, hr⟩ := hv
      have Hr := Lib.hid hr
      clear hr hl hc
      go_enter Try.func14, Try.ntmps14
      go_wp2_with fail
      refine (implAreTubes_any w L _ Hv.out hn).mono ?_
      rintro e w2 ⟨rfl, hb2⟩
      rw [h1]
      go_wp2_with fail
      refine (implClosed_any w2 L _ (Hv.out.below hb2) h1).mono ?_
      rintro e w3 ⟨rfl, hb3⟩
      rw [h2]
      have b3 := hb2.trans (hb3.mono hb2.size)
      clear hb2 hb3
      go_wp2
      go_loopw [4, 5, 18] (fun a b i wr => ∃ (k : Nat) (bl br : Bool), k ≤ L.length ∧ i = .int .i64 k ∧ a = .bool bl ∧ b = .bool br ∧ bl = allUp L k ∧ br = allDown L k ∧ Below w.heap.size w wr) (fun _ _ i _ => L.length - (intOf i).toNat)
      case atStart => exact ⟨0, true, true, Nat.zero_le _, rfl, rfl, rfl, rfl, rfl, b3⟩
      case round =>
        obtain ⟨k, bl, br, hk, rfl, rfl, rfl, hbl, hbr, hb⟩ := hrel
        have hsz := hb.size
        have Hbl := Lib.hid hbl
        have Hbr := Lib.hid hbr
        clear hbl hbr
        by_cases hlt : k < L.length
        · obtain ⟨j, hj⟩ : ∃ j, (k + 1) % L.length = j := ⟨_, rfl⟩
          have hjl : j < L.length := by rw [← hj]; exact Nat.mod_lt _ (by omega)
          have hmod : ((k : Int) + 1) % (L.length : Int) = (j : Int) := by rw [← hj]; simp
          have Hj := Lib.hid hj
          clear hj
          obtain ⟨g, o, rfl, hg, c0, c1⟩ := (Hr.out.below hb (Nat.le_refl _)).tube (k := k) (by omega)
          obtain ⟨g2, o2, hA, hg2, e0, e1⟩ := (Hr.out.below hb (Nat.le_refl _)).tube (k := j) hjl
          injection hA with hA
          injection hA with hA1 hA2
          subst hA1
          subst hA2
          have E0 := fun x => (World.cell?_alloc_lt wr x _ (World.block_lt_of_cell? wr _ e0)).trans e0
          have E1 := fun x => (World.cell?_alloc_lt wr x _ (World.block_lt_of_cell? wr _ e1)).trans e1
          have htb := turn_bd h1 hlt hjl
          have i0 : (0 : Int) ≤ (k : Int) := Int.natCast_nonneg _
          have i1 : (k : Int) < (L.length : Int) := by omega
          have T := Lib.hid (show turnT L k = (tubeAt L k).x * (tubeAt L j).y - (tubeAt L k).y * (tubeAt L j).x by rw [turnT, Hj.out])
          cases bl <;> cases br
          all_goals
            go_wp2
            go_roundw
            case rel => exact ⟨k + 1, _, _, by omega, by go_num, rfl, rfl, by rw [allUp_succ, ← Hbl.out, T.out]; first | rfl | simp, by rw [allDown_succ, ← Hbr.out, T.out]; first | rfl | simp, (hb.alloc hsz _).alloc (by simp; omega) _⟩
            case measure => simp [intOf]; omega
        · have e1 : bl = allUp L L.length := by rw [Hbl.out, show k = L.length by omega]
          have e2 : br = allDown L L.length := by rw [Hbr.out, show k = L.length by omega]
          have E1 := Lib.hid e1
          have E2 := Lib.hid e2
          clear e1 e2
          cases bl
          all_goals
            go_wp2
            go_ret2
            exact RetBC.ok (by rw [H.out, ← E1.out, ← E2.out]; first | rfl | simp) hb

set_option maxHeartbeats 3200000 in
theorem specIsConvex_any (w : World) (L : List Tube) (v : Value) (hv : Sl w 2 v L.length (tubeRow L)) (_ : tubeFit L) (hn : L.length ≤ 4194304) :
    Calls Try.prog 12 #[v] w (RetBC (convexF L) w) := by
  have Hv := Lib.hid hv
  by_cases h0 : tubeCode L = 0
  · obtain ⟨h1, h2⟩ := tubeCode_zero h0
    have H := Lib.hid (show convexF L = (allUp L L.length || allDown L L.length, 0) by simp [convexF, h0])
    have h8 := (areTubes_iff h1).2.1
    have h3 := (areTubes_iff h1).1
    obtain ⟨A, c, rfl, hl, hc, hr⟩ := hv
    have Hr := Lib.hid hr
    clear hr hl hc
    go_enter Try.func12, Try.ntmps12
    go_wp2_with fail
    refine (specCode_any w L _ Hv.out hn).mono ?_
    rintro e w2 ⟨rfl, rfl⟩
    rw [h0]
    clear h0
    go_wp2
    go_loopw [5, 6, 7] (fun a b i wr => ∃ (k : Nat) (bl br : Bool), k ≤ L.length ∧ i = .int .i64 k ∧ a = .bool bl ∧ b = .bool br ∧ bl = allUp L k ∧ br = allDown L k ∧ Below w.heap.size w wr) (fun _ _ i _ => L.length - (intOf i).toNat)
    case atStart => exact ⟨0, true, true, Nat.zero_le _, rfl, rfl, rfl, rfl, rfl, Below.refl _ _⟩
    case round =>
      obtain ⟨k, bl, br, hk, rfl, rfl, rfl, hbl, hbr, hb⟩ := hrel
      have hsz := hb.size
      have Hbl := Lib.hid hbl
      have Hbr := Lib.hid hbr
      clear hbl hbr
      by_cases hlt : k < L.length
      · obtain ⟨j, hj⟩ : ∃ j, (k + 1) % L.length = j := ⟨_, rfl⟩
        have hjl : j < L.length := by rw [← hj]; exact Nat.mod_lt _ (by omega)
        have hmod : ((k : Int) + 1) % (L.length : Int) = (j : Int) := by rw [← hj]; simp
        have Hj := Lib.hid hj
        clear hj
        obtain ⟨g, o, rfl, hg, c0, c1⟩ := (Hr.out.below hb (Nat.le_refl _)).tube (k := k) (by omega)
        obtain ⟨g2, o2, hA, hg2, e0, e1⟩ := (Hr.out.below hb (Nat.le_refl _)).tube (k := j) hjl
        injection hA with hA
        injection hA with hA1 hA2
        subst hA1
        subst hA2
        have n0 := World.new_ne wr _ c0
        have m1 : IntKind.i64.wrap ((k : Int) + 1) = (k : Int) + 1 := by rw [IntKind.wrap_i64]; omega
        have m2 : ((k : Int) + 1).tmod (L.length : Int) = (j : Int) := by rw [Int.tmod_eq_emod_of_nonneg (by omega)]; exact hmod
        have m3 : IntKind.i64.wrap (j : Int) = (j : Int) := by rw [IntKind.wrap_i64]; omega
        have m4 : ((L.length : Int) = 0) = False := by simp; intro h; subst h; simp at hlt
        have m5 : (L = []) = False := by simp; intro h; subst h; simp at hlt
        have m6 : (0 : Int) ≤ (j : Int) := Int.natCast_nonneg _
        have m7 : (j : Int) < (L.length : Int) := by omega
        have htb := turn_bd h1 hlt hjl
        have i0 : (0 : Int) ≤ (k : Int) := Int.natCast_nonneg _
        have i1 : (k : Int) < (L.length : Int) := by omega
        have T := Lib.hid (show turnT L k = (tubeAt L k).x * (tubeAt L j).y - (tubeAt L k).y * (tubeAt L j).x by rw [turnT, Hj.out])
        cases bl <;> cases br
        all_goals
          go_wp2_with fail
          go_region_held3 (fun w' => w'.cell? ⟨g, o + k * 2, none⟩ = some (.int .i64 (tubeAt L k).x) ∧ w'.cell? ⟨g, o + k * 2 + 1, none⟩ = some (.int .i64 (tubeAt L k).y) ∧ w'.cell? ⟨g, o + j * 2, none⟩ = some (.int .i64 (tubeAt L j).x) ∧ w'.cell? ⟨g, o + j * 2 + 1, none⟩ = some (.int .i64 (tubeAt L j).y)) (go_keep) (fail)
          all_goals
            go_wp2
            go_roundw
            case rel => exact ⟨k + 1, _, _, by omega, by go_num, rfl, rfl, by rw [allUp_succ, ← Hbl.out, T.out]; first | rfl | simp, by rw [allDown_succ, ← Hbr.out, T.out]; first | rfl | simp, by first | exact ((hb.alloc hsz _).alloc (by simp; omega) _).drew | exact (hb.drew.alloc hsz _).alloc (by simp; omega) _⟩
            case measure => simp [intOf]; omega
      · have e1 : bl = allUp L L.length := by rw [Hbl.out, show k = L.length by omega]
        have e2 : br = allDown L L.length := by rw [Hbr.out, show k = L.length by omega]
        have E1 := Lib.hid e1
        have E2 := Lib.hid e2
        clear e1 e2
        cases bl
        all_goals
          go_wp2
          go_ret2
          exact RetBC.ok (by rw [H.out, ← E1.out, ← E2.out]; first | rfl | simp) hb
  · clear hv
    have H := Lib.hid (show convexF L = (false, tubeCode L) by simp [convexF, h0])
    have t0 : (tubeCode L != 0) = true := by simpa using h0
    clear h0
    go_enter Try.func12, Try.ntmps12
    go_wp2_with fail
    refine (specCode_any w L _ Hv.out hn).mono ?_
    rintro e w2 ⟨rfl, rfl⟩
    go_wp2
    go_ret2
    exact RetBC.ok H.out (Below.refl _ _)

end Go.Proofs.Ytmjjlpkleapaeaa
