/- What tubes are; their error; the walks of AreTubes, errorOf, isClosed, l20Error, l20Code. -/
import Derived.Test.YtmjjlpkleapaeaaTubeS
import Derived.Test.YtmjjlpkleapaeaaBits
namespace Go.Proofs.Ytmjjlpkleapaeaa
open Go.RowKit

def tubeOk (t : Tube) : Bool := inR t.x (-2000) 2000 && inR t.y (-2000) 2000 && !(t.x == 0 && t.y == 0)
def areTubes (L : List Tube) : Bool := decide (3 ≤ L.length ∧ L.length ≤ 8) && (List.range L.length).all fun i => tubeOk (tubeAt L i)
theorem areTubes_len {L : List Tube} (h : ¬ (3 ≤ L.length ∧ L.length ≤ 8)) : areTubes L = false := by
  simp only [areTubes, Bool.and_eq_false_iff]; exact .inl (by simpa using h)
theorem areTubes_bad {L : List Tube} {i : Nat} (hi : i < L.length) (h : tubeOk (tubeAt L i) = false) : areTubes L = false := by
  simp only [areTubes, Bool.and_eq_false_iff, List.all_eq_false]
  exact .inr ⟨i, by simpa using hi, by simp [h]⟩
theorem areTubes_good {L : List Tube} (h1 : 3 ≤ L.length) (h2 : L.length ≤ 8) (h : ∀ i, i < L.length → tubeOk (tubeAt L i) = true) : areTubes L = true := by
  simp only [areTubes, Bool.and_eq_true, decide_eq_true_eq, List.all_eq_true, List.mem_range]
  exact ⟨⟨h1, h2⟩, h⟩
theorem areTubes_iff {L : List Tube} (h : areTubes L = true) : 3 ≤ L.length ∧ L.length ≤ 8 ∧ ∀ i, i < L.length → tubeOk (tubeAt L i) = true := by
  simp only [areTubes, Bool.and_eq_true, decide_eq_true_eq, List.all_eq_true, List.mem_range] at h
  exact ⟨h.1.1, h.1.2, h.2⟩
theorem areTubes_at {L : List Tube} (h : areTubes L = true) {i : Nat} (hi : i < L.length) : -2000 ≤ (tubeAt L i).x ∧ (tubeAt L i).x ≤ 2000 ∧ -2000 ≤ (tubeAt L i).y ∧ (tubeAt L i).y ≤ 2000 := by
  have := (areTubes_iff h).2.2 i hi
  simp only [tubeOk, Bool.and_eq_true, inR, decide_eq_true_eq] at this
  omega
theorem tubeOk_x {t : Tube} (h : inR t.x (-2000) 2000 = false) : tubeOk t = false := by simp [tubeOk, h]
theorem tubeOk_y {t : Tube} (h : inR t.y (-2000) 2000 = false) : tubeOk t = false := by simp [tubeOk, h]
theorem tubeOk_z {t : Tube} (h : (t.x == 0) = true) (h2 : (t.y == 0) = true) : tubeOk t = false := by simp [tubeOk, h, h2]
theorem tubeOk_good {t : Tube} (h1 : inR t.x (-2000) 2000 = true) (h2 : inR t.y (-2000) 2000 = true) (h : (t.x == 0 && t.y == 0) = false) : tubeOk t = true := by simp only [tubeOk, h1, h2, h]; rfl

set_option maxHeartbeats 1600000 in
theorem implAreTubes_any (w : World) (L : List Tube) (v : Value) (hv : Sl w 2 v L.length (tubeRow L)) (_ : L.length ≤ 4194304) :
    Calls Try.prog 39 #[v] w (RetB (areTubes L) w) := by
  obtain ⟨A, c, rfl, hl, hc, hr⟩ := hv
  have Hr := Lib.hid hr
  clear hr hl hc
  by_cases hlen : 3 ≤ L.length ∧ L.length ≤ 8
  · obtain ⟨l1, l2⟩ := hlen
    have t1 : decide ((L.length : Int) < 3) = false := by simp; omega
    have t2 : decide (8 < (L.length : Int)) = false := by simp; omega
    go_enter Try.func39, Try.ntmps39
    go_wp2
    go_loopw [15] (fun i wr => ∃ k : Nat, k ≤ L.length ∧ i = .int .i64 k ∧ (∀ j, j < k → tubeOk (tubeAt L j) = true) ∧ Below w.heap.size w wr) (fun i _ => L.length - (intOf i).toNat)
    case atStart => exact ⟨0, Nat.zero_le _, rfl, fun j h => absurd h (by omega), Below.refl _ _⟩
    case round =>
      obtain ⟨k, hk, rfl, hall, hb⟩ := hrel
      have Hall := Lib.hid hall
      clear hall
      have hsz := hb.size
      by_cases hlt : k < L.length
      · obtain ⟨g, o, rfl, hg, c0, c1⟩ := (Hr.out.below hb (Nat.le_refl _)).tube hlt
        cases h1 : inR (tubeAt L k).x (-2000) 2000
        · have H := Lib.hid (areTubes_bad hlt (tubeOk_x h1))
          go_wp2_with (go_at_call 60; refine (within_any _ _ _ _).mono ?_; rintro e w2 ⟨rfl, rfl⟩)
          go_ret
          exact RetB.ok H.out (hb.alloc hsz _)
        · cases h2 : inR (tubeAt L k).y (-2000) 2000
          · have H := Lib.hid (areTubes_bad hlt (tubeOk_y h2))
            go_wp2_with (go_at_call 60; refine (within_any _ _ _ _).mono ?_; rintro e w2 ⟨rfl, rfl⟩)
            go_ret
            exact RetB.ok H.out (hb.alloc hsz _)
          · cases hz : ((tubeAt L k).x == 0 && (tubeAt L k).y == 0)
            · have Hok := Lib.hid (tubeOk_good h1 h2 hz)
              have hz2 : ((tubeAt L k).x == 0) = false ∨ ((tubeAt L k).x == 0) = true ∧ ((tubeAt L k).y == 0) = false := by
                cases hx : ((tubeAt L k).x == 0)
                · exact .inl rfl
                · rw [hx] at hz; exact .inr ⟨rfl, by simpa using hz⟩
              clear hz
              rcases hz2 with hx | ⟨hx, hy⟩
              all_goals
                go_wp2_with (go_at_call 60; refine (within_any _ _ _ _).mono ?_; rintro e w2 ⟨rfl, rfl⟩)
                go_roundw
                case rel => exact ⟨k + 1, by omega, by go_num, fun j hj => by
                  by_cases e : j = k
                  · subst e; exact Hok.out
                  · exact Hall.out j (by omega), hb.alloc hsz _⟩
                case measure => simp [intOf]; omega
            · obtain ⟨hx, hy⟩ := (Bool.and_eq_true _ _).mp hz
              have H := Lib.hid (areTubes_bad hlt (tubeOk_z hx hy))
              clear hz
              go_wp2_with (go_at_call 60; refine (within_any _ _ _ _).mono ?_; rintro e w2 ⟨rfl, rfl⟩)
              go_ret
              exact RetB.ok H.out (hb.alloc hsz _)
      · have H := Lib.hid (areTubes_good l1 l2 (fun j hj => Hall.out j (by omega)))
        go_wp2
        go_ret
        exact RetB.ok H.out hb
  · have H := Lib.hid (areTubes_len hlen)
    by_cases h1 : L.length < 3
    · have t1 : decide ((L.length : Int) < 3) = true := by simp; omega
      go_enter Try.func39, Try.ntmps39
      go_wp2
      go_ret
      exact RetB.ok H.out (Below.refl _ _)
    · have t1 : decide ((L.length : Int) < 3) = false := by simp; omega
      have t2 : decide (8 < (L.length : Int)) = true := by simp; omega
      go_enter Try.func39, Try.ntmps39
      go_wp2
      go_ret
      exact RetB.ok H.out (Below.refl _ _)

set_option maxHeartbeats 1600000 in
theorem specAreTubes_any (w : World) (L : List Tube) (v : Value) (hv : Sl w 2 v L.length (tubeRow L)) (hn : L.length ≤ 4194304) :
    Calls Try.prog 49 #[v] w fun e w' => e = .returned (.bool (areTubes L)) ∧ w = w' := by
  obtain ⟨A, c, rfl, hl, hc, hr⟩ := hv
  have Hr := Lib.hid hr
  clear hr hl hc
  go_enter Try.func49, Try.ntmps49
  go_wp2
  go_loop [3] (fun i => ∃ k : Nat, k ≤ L.length ∧ i = .int .i64 k ∧ (∀ j, j < k → tubeOk (tubeAt L j) = true)) (fun i => L.length - (intOf i).toNat)
  case atStart => exact ⟨0, Nat.zero_le _, rfl, fun j h => absurd h (by omega)⟩
  case round =>
    obtain ⟨k, hk, rfl, hall⟩ := hrel
    have Hall := Lib.hid hall
    clear hall
    by_cases hlt : k < L.length
    · obtain ⟨g, o, rfl, hg, c0, c1⟩ := Hr.out.tube hlt
      cases h1 : inR (tubeAt L k).x (-2000) 2000
      · have H := Lib.hid (areTubes_bad hlt (tubeOk_x h1))
        go_wp2_with (go_at_call 61; refine (l01In_any _ _ _ _).mono ?_; rintro e w2 ⟨rfl, rfl⟩)
        go_ret
        exact ⟨retB H.out.symm, rfl⟩
      · cases h2 : inR (tubeAt L k).y (-2000) 2000
        · have H := Lib.hid (areTubes_bad hlt (tubeOk_y h2))
          go_wp2_with (go_at_call 61; refine (l01In_any _ _ _ _).mono ?_; rintro e w2 ⟨rfl, rfl⟩)
          go_ret
          exact ⟨retB H.out.symm, rfl⟩
        · cases hz : ((tubeAt L k).x == 0 && (tubeAt L k).y == 0)
          · have Hok := Lib.hid (tubeOk_good h1 h2 hz)
            have hz2 : ((tubeAt L k).x == 0) = false ∨ ((tubeAt L k).x == 0) = true ∧ ((tubeAt L k).y == 0) = false := by
              cases hx : ((tubeAt L k).x == 0)
              · exact .inl rfl
              · rw [hx] at hz; exact .inr ⟨rfl, by simpa using hz⟩
            clear hz
            rcases hz2 with hx | ⟨hx, hy⟩
            all_goals
              go_wp2_with (go_at_call 61; refine (l01In_any _ _ _ _).mono ?_; rintro e w2 ⟨rfl, rfl⟩)
              go_round
              case rel => exact ⟨k + 1, by omega, by go_num, fun j hj => by
                by_cases e : j = k
                · subst e; exact Hok.out
                · exact Hall.out j (by omega)⟩
              case measure => simp [intOf]; omega
          · obtain ⟨hx, hy⟩ := (Bool.and_eq_true _ _).mp hz
            have H := Lib.hid (areTubes_bad hlt (tubeOk_z hx hy))
            clear hz
            go_wp2_with (go_at_call 61; refine (l01In_any _ _ _ _).mono ?_; rintro e w2 ⟨rfl, rfl⟩)
            go_ret
            exact ⟨retB H.out.symm, rfl⟩
    · have H : inR (L.length : Int) 3 8 = areTubes L := by
        by_cases h3 : 3 ≤ L.length ∧ L.length ≤ 8
        · rw [areTubes_good h3.1 h3.2 (fun j hj => Hall.out j (by omega))]; simp [inR]; omega
        · rw [areTubes_len h3]; simp [inR]; omega
      have F := Lib.hid H
      clear H
      go_wp2_with (go_at_call 61; refine (l01In_any _ _ _ _).mono ?_; rintro e w2 ⟨rfl, rfl⟩)
      go_ret
      exact ⟨retB F.out, rfl⟩

/-! ### The error -/
def sumX (L : List Tube) : Int := L.foldl (fun s t => s + t.x) 0
def sumY (L : List Tube) : Int := L.foldl (fun s t => s + t.y) 0
theorem sumX_take (L : List Tube) {k : Nat} (h : k < L.length) : sumX (L.take (k + 1)) = sumX (L.take k) + (tubeAt L k).x := by
  rw [take_snoc L default h, sumX, List.foldl_append]; rfl
theorem sumY_take (L : List Tube) {k : Nat} (h : k < L.length) : sumY (L.take (k + 1)) = sumY (L.take k) + (tubeAt L k).y := by
  rw [take_snoc L default h, sumY, List.foldl_append]; rfl
theorem sums_bd {L : List Tube} (h : areTubes L = true) : ∀ k, k ≤ L.length → -2000 * (k : Int) ≤ sumX (L.take k) ∧ sumX (L.take k) ≤ 2000 * k ∧ -2000 * (k : Int) ≤ sumY (L.take k) ∧ sumY (L.take k) ≤ 2000 * k := by
  intro k
  induction k with
  | zero => intro _; simp [sumX, sumY]
  | succ k ih =>
    intro hk
    have := ih (by omega)
    have ha := areTubes_at h (i := k) (by omega)
    rw [sumX_take L (by omega), sumY_take L (by omega)]
    omega
theorem sums_bd8 {L : List Tube} (h : areTubes L = true) {k : Nat} (hk : k ≤ L.length) : -16000 ≤ sumX (L.take k) ∧ sumX (L.take k) ≤ 16000 ∧ -16000 ≤ sumY (L.take k) ∧ sumY (L.take k) ≤ 16000 := by
  have h1 := sums_bd h k hk
  have h2 := (areTubes_iff h).2.1
  omega

set_option maxHeartbeats 1600000 in
theorem implError_any (w : World) (L : List Tube) (v : Value) (hv : Sl w 2 v L.length (tubeRow L)) (ht : areTubes L = true) :
    Calls Try.prog 50 #[v] w fun e w' => e = .returned (.agg #[.int .i64 (sumX L), .int .i64 (sumY L)]) ∧ Below w.heap.size w w' := by
  obtain ⟨A, c, rfl, hl, hc, hr⟩ := hv
  have Hr := Lib.hid hr
  have h8 := (areTubes_iff ht).2.1
  clear hr hl hc
  go_enter Try.func50, Try.ntmps50
  go_wp2
  go_loopw [8] (fun i wr => ∃ (k : Nat) (sx sy : Int), k ≤ L.length ∧ i = .int .i64 k ∧ sx = sumX (L.take k) ∧ sy = sumY (L.take k) ∧ Blk wr (w.heap.size + 1) 54 #[.int .i64 sx, .int .i64 sy] ∧
      Blk wr w.heap.size 54 #[.int .i64 0, .int .i64 0] ∧ Below w.heap.size w wr) (fun i _ => L.length - (intOf i).toNat)
  case atStart => exact ⟨0, 0, 0, Nat.zero_le _, rfl, rfl, rfl, by have := Blk.new (w.alloc (.cells #[.int .i64 0, .int .i64 0] 54)) 54 #[.int .i64 0, .int .i64 0]; rwa [World.size_alloc] at this, (Blk.new w _ _).alloc _, ((Below.refl _ _).alloc (Nat.le_refl _) _).alloc (by simp) _⟩
  case round =>
    obtain ⟨k, sx, sy, hk, rfl, hx, hy, hB1, hB0, hb⟩ := hrel
    have hbd := sums_bd8 ht hk
    rw [← hx, ← hy] at hbd
    have Hx := Lib.hid hx
    have Hy := Lib.hid hy
    have H1 := Lib.hid hB1
    have H0 := Lib.hid hB0
    have hsz := hb.size
    have hlt1 := hB1.lt
    clear hx hy hB1 hB0
    by_cases hlt : k < L.length
    · obtain ⟨g, o, rfl, hg, c0, c1⟩ := (Hr.out.below hb (Nat.le_refl _)).tube hlt
      have ha := areTubes_at ht hlt
      have p0 := H1.out.cell 0
      have p1 := H1.out.cell 1
      have q0 := H1.out.frozen 0
      have q1 := H1.out.frozen 1
      have d0 := fun o => H1.out.cell' 0 o
      have d1 := fun o => H1.out.cell' 1 o
      have f0 := fun o => H1.out.frozen' 0 o
      have f1 := fun o => H1.out.frozen' 1 o
      simp only [List.getElem?_toArray, List.getElem?_cons_zero, List.getElem?_cons_succ] at d0 d1 p0 p1
      go_wp2
      go_roundw
      case rel =>
        refine ⟨k + 1, _, _, by omega, by go_num, by rw [sumX_take L hlt, ← Hx.out], by rw [sumY_take L hlt, ← Hy.out], ?_, ?_, ?_⟩
        · exact ((H1.out.set 0 _).set 1 _).alloc _
        · exact ((H0.out.far (by simp) _).far (by simp) _).alloc _
        · exact ((hb.setCell (by simp) _).setCell (by simp) _).alloc (by simp [World.setCell]; omega) _
      case measure => simp [intOf]; omega
    · have d0 := H1.out.cell 0
      have d1 := H1.out.cell 1
      have e0 := H0.out.cell 0
      have e1 := H0.out.cell 1
      have f0 := H0.out.frozen 0
      have f1 := H0.out.frozen 1
      simp only [List.getElem?_toArray, List.getElem?_cons_zero, List.getElem?_cons_succ] at d0 d1 e0 e1
      go_wp2
      refine bodyPost_ret (v := .agg #[.int .i64 sx, .int .i64 sy]) (by simp [results, Try.results50, go_sem, e0, e1]) rfl ⟨?_, (hb.setCell (Nat.le_refl _) _).setCell (Nat.le_refl _) _⟩
      rw [Hx.out, Hy.out, List.take_of_length_le (by omega)]

end Go.Proofs.Ytmjjlpkleapaeaa
