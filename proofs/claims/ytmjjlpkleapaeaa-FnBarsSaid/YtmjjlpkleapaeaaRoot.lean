/- The walks of root, l02Root, l02RootUp: the square root, rounded down, rounded up. -/
import Derived.Test.YtmjjlpkleapaeaaMem
namespace Go.Proofs.Ytmjjlpkleapaeaa
open Go.RowKit

def IsRoot (n r : Int) : Prop := 0 ≤ r ∧ r * r ≤ n ∧ n < (r + 1) * (r + 1)
def IsUp (n r : Int) : Prop := 0 ≤ r ∧ n ≤ r * r ∧ ∀ s, 0 ≤ s → n ≤ s * s → r ≤ s
open Classical in
noncomputable def rootUp (n : Int) : Int := if h : ∃ r, IsUp n r then Classical.choose h else 0
theorem rootUp_eq {n r : Int} (h : IsUp n r) : rootUp n = r := by
  have hx : ∃ r, IsUp n r := ⟨r, h⟩
  unfold rootUp
  rw [dif_pos hx]
  have h1 := Classical.choose_spec hx
  have a := h1.2.2 r h.1 h.2.1
  have b := h.2.2 _ h1.1 h1.2.1
  omega
theorem sq_le {a b : Int} (h0 : 0 ≤ a) (h : a ≤ b) : a * a ≤ b * b := Int.mul_le_mul h h h0 (by omega)
theorem lt_of_sq {a b : Int} (h0 : 0 ≤ b) (h : a * a < b * b) (ha : 0 ≤ a) : a < b := by
  by_cases hc : a < b
  · exact hc
  · have := sq_le h0 (show b ≤ a by omega); omega
theorem IsRoot.up_eq {n r : Int} (h : IsRoot n r) (e : ¬ r * r < n) : rootUp n = r := by
  refine rootUp_eq ⟨h.1, by omega, fun s hs hn => ?_⟩
  by_cases hc : r ≤ s
  · exact hc
  · have h1 := sq_le hs (show s ≤ r by omega)
    have h2 : r * r = n := by have := h.2.1; omega
    have h3 : s * s = r * r := by omega
    have h4 : s + 1 ≤ r := by omega
    have h5 := sq_le (a := s + 1) (by omega) h4
    have h6 : (s + 1) * (s + 1) = s * s + 2 * s + 1 := by rw [Int.add_mul, Int.mul_add]; omega
    omega
theorem IsRoot.up_lt {n r : Int} (h : IsRoot n r) (e : r * r < n) : rootUp n = r + 1 := by
  refine rootUp_eq ⟨by have := h.1; omega, by have := h.2.2; omega, fun s hs hn => ?_⟩
  have := lt_of_sq hs (show r * r < s * s by omega) h.1
  omega
theorem IsRoot.le {n r b : Int} (h : IsRoot n r) (hb : 0 ≤ b) (hn : n < (b + 1) * (b + 1)) : r ≤ b := by
  have := lt_of_sq (a := r) (b := b + 1) (by omega) (by have := h.2.1; omega) h.1
  omega
theorem rootUp_bd {n : Int} (h0 : 0 < n) (hn : n ≤ 8000000) (hx : ∃ r, IsRoot n r) : 1 ≤ rootUp n ∧ rootUp n ≤ 2829 := by
  obtain ⟨r, hr⟩ := hx
  have h1 := hr.le (b := 2828) (by omega) (by omega)
  have hr0 := hr.1
  by_cases hc : r * r < n
  · rw [hr.up_lt hc]; omega
  · rw [hr.up_eq hc]
    have : r ≠ 0 := by rintro rfl; have := hr.2.1; omega
    omega

set_option maxHeartbeats 1000000 in
theorem implRoot_any (w : World) (n : Int) (h0 : 0 ≤ n) (hn : n ≤ 9223372036854775807) :
    Calls Try.prog 64 #[.int .i64 n] w fun e w' => ∃ r, e = .returned (.int .i64 r) ∧ IsRoot n r ∧ w' = w := by
  go_enter Try.func64, Try.ntmps64
  go_wp2
  go_loopw [3, 4] (fun a b wr => ∃ lo hi : Int, a = .int .i64 lo ∧ b = .int .i64 hi ∧ 0 ≤ lo ∧ lo ≤ hi ∧ hi ≤ 3037000499 ∧ lo * lo ≤ n ∧ n < (hi + 1) * (hi + 1) ∧ wr = w) (fun a b _ => (intOf b - intOf a).toNat)
  case atStart => exact ⟨0, 3037000499, rfl, rfl, by omega, by omega, by omega, by omega, by omega, rfl⟩
  case round =>
    obtain ⟨lo, hi, rfl, rfl, hlo, hle, hhi, h1, h2, rfl⟩ := hrel
    by_cases hlt : lo < hi
    · obtain ⟨m, hm⟩ : ∃ m, m = (lo + hi + 1) / 2 := ⟨_, rfl⟩
      have m1 : lo < m := by omega
      have m2 : m ≤ hi := by omega
      have d1 : IntKind.i64.wrap (lo + hi) = lo + hi := by rw [IntKind.wrap_i64]; omega
      have d2 : IntKind.i64.wrap (lo + hi + 1) = lo + hi + 1 := by rw [IntKind.wrap_i64]; omega
      have d3 : (lo + hi + 1).tdiv 2 = m := by rw [Int.tdiv_eq_ediv_of_nonneg (by omega)]; omega
      have d4 : (lo + hi + 1) / 2 = m := hm.symm
      clear hm
      have sq1 := sq_le (a := m) (b := 3037000499) (by omega) (by omega)
      have sq0 := sq_le (a := 0) (b := m) (by omega) (by omega)
      by_cases hc : m * m ≤ n
      · go_wp2
        go_roundw
        case rel => exact ⟨m, hi, rfl, rfl, by omega, by omega, by omega, hc, h2, trivial⟩
        case measure => simp [intOf]; omega
      · go_wp2
        go_roundw
        case rel => exact ⟨lo, m - 1, rfl, rfl, by omega, by omega, by omega, h1, by rw [show m - 1 + 1 = m by omega]; omega, trivial⟩
        case measure => simp [intOf]; omega
    · go_wp2
      go_ret
      have : hi = lo := by omega
      subst this
      exact ⟨_, rfl, ⟨hlo, h1, h2⟩, rfl⟩

set_option maxHeartbeats 1000000 in
theorem specRoot_any (w : World) (n : Int) (h0 : 0 ≤ n) (hn : n ≤ 4000000000000000000) :
    Calls Try.prog 67 #[.int .i64 n] w fun e w' => ∃ r, e = .returned (.int .i64 r) ∧ r ≤ 2000000000 ∧ IsRoot n r ∧ w' = w := by
  go_enter Try.func67, Try.ntmps67
  go_wp2
  go_loopw [3, 4] (fun a b wr => ∃ lo hi : Int, a = .int .i64 lo ∧ b = .int .i64 hi ∧ 0 ≤ lo ∧ lo < hi ∧ hi ≤ 2000000001 ∧ lo * lo ≤ n ∧ n < hi * hi ∧ wr = w) (fun a b _ => (intOf b - intOf a).toNat)
  case atStart => exact ⟨0, 2000000001, rfl, rfl, by omega, by omega, by omega, by omega, by omega, rfl⟩
  case round =>
    obtain ⟨lo, hi, rfl, rfl, hlo, hle, hhi, h1, h2, rfl⟩ := hrel
    by_cases hlt : lo + 1 < hi
    · obtain ⟨m, hm⟩ : ∃ m, m = (lo + hi) / 2 := ⟨_, rfl⟩
      have m1 : lo < m := by omega
      have m2 : m < hi := by omega
      have d1 : IntKind.i64.wrap (lo + hi) = lo + hi := by rw [IntKind.wrap_i64]; omega
      have d3 : (lo + hi).tdiv 2 = m := by rw [Int.tdiv_eq_ediv_of_nonneg (by omega)]; omega
      have d4 : (lo + hi) / 2 = m := hm.symm
      clear hm
      have sq1 := sq_le (a := m) (b := 2000000001) (by omega) (by omega)
      have sq0 := sq_le (a := 0) (b := m) (by omega) (by omega)
      by_cases hc : m * m ≤ n
      · go_wp2
        go_roundw
        case rel => exact ⟨m, hi, rfl, rfl, by omega, by omega, by omega, hc, h2, trivial⟩
        case measure => simp [intOf]; omega
      · go_wp2
        go_roundw
        case rel => exact ⟨lo, m, rfl, rfl, by omega, by omega, by omega, h1, by omega, trivial⟩
        case measure => simp [intOf]; omega
    · go_wp2
      go_ret
      have : hi = lo + 1 := by omega
      subst this
      exact ⟨_, rfl, by omega, ⟨hlo, h1, h2⟩, rfl⟩

set_option maxHeartbeats 1000000 in
theorem specRootUp_any (w : World) (n : Int) (h0 : 0 ≤ n) (hn : n ≤ 4000000000000000000) :
    Calls Try.prog 63 #[.int .i64 n] w fun e w' => e = .returned (.int .i64 (rootUp n)) ∧ (∃ r, IsRoot n r) ∧ w' = w := by
  go_enter Try.func63, Try.ntmps63
  go_wp2_with fail
  refine (specRoot_any w n h0 hn).mono ?_
  rintro e w1 ⟨r, rfl, hr9, hr, rfl⟩
  have hr0 := hr.1
  have hr1 := hr.2.1
  have sq0 := sq_le (a := 0) (b := r) (by omega) (by omega)
  by_cases hc : r * r < n
  · have H := Lib.hid (hr.up_lt hc)
    have X := Lib.hid (Exists.intro r hr)
    clear hr
    go_wp2
    go_ret
    exact ⟨by rw [H.out]; rfl, X.out, rfl⟩
  · have H := Lib.hid (hr.up_eq hc)
    have X := Lib.hid (Exists.intro r hr)
    clear hr
    go_wp2
    go_ret
    exact ⟨by rw [H.out]; rfl, X.out, rfl⟩

end Go.Proofs.Ytmjjlpkleapaeaa
