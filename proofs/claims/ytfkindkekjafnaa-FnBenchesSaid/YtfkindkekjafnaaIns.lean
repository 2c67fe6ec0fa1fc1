/- Indices put in by a key: the plain law; a row of the call's own behind a copy. No walks. -/
import Derived.Test.YtfkindkekjafnaaBits
import Derived.Laws.CopyOwn
namespace Go.Proofs.Ytfkindkekjafnaa
open Go.RowKit

theorem own_drewN {w : World} {base n size : Nat} {e : TypeId} {xs : List Value} {v : Value} (h : w.ownsRow base e size v n xs) (k : Nat) : (w.drewN k).ownsRow base e size v n xs := h
theorem Rd.drewN0 {w : World} {B size n : Nat} {A : Option Addr} {xs : List Value} (h : Rd w B size A n xs) (k : Nat) : Rd (w.drewN k) B size A n xs := h
theorem Sl.drewN0' {w : World} {size n : Nat} {v : Value} {xs : List Value} (h : Sl w size v n xs) (k : Nat) : Sl (w.drewN k) size v n xs := h
theorem drewN2 (w : World) (a b : Nat) : (w.drewN a).drewN b = w.drewN (a + b) := by simp [World.drewN, Nat.add_assoc]
def insAt (acc : List Int) (k : Nat) (i : Int) : List Int := acc.take k ++ i :: acc.drop k
theorem insAt_len (acc : List Int) (k : Nat) (i : Int) : (insAt acc k i).length = acc.length + 1 := by simp [insAt]; omega
theorem insAt_at {acc : List Int} {k : Nat} {i : Int} (hk : k ≤ acc.length) (j : Nat) (hj : j ≤ acc.length) :
    intsAt (insAt acc k i) j = if j < k then intsAt acc j else if j = k then i else intsAt acc (j - 1) := by
  unfold insAt intsAt
  rw [List.getD_eq_getElem?_getD, List.getElem?_append, List.length_take]
  have hm : min k acc.length = k := by omega
  rw [hm]
  by_cases h1 : j < k
  · rw [if_pos h1, if_pos h1, List.getElem?_take, if_pos h1, List.getD_eq_getElem?_getD]
  · rw [if_neg h1, if_neg h1]
    by_cases h2 : j = k
    · subst h2; simp
    · rw [if_neg h2, List.getElem?_cons, if_neg (by omega), List.getElem?_drop, List.getD_eq_getElem?_getD]
      congr 2; omega
/-- How many at the head have a key of at most d. -/
def posOf (key : Nat → Int) (acc : List Int) (d : Int) : Nat := (acc.takeWhile fun j => decide (key j.toNat ≤ d)).length
theorem posOf_eq {key : Nat → Int} {d : Int} : ∀ (acc : List Int) (k : Nat), k ≤ acc.length → (∀ j, j < k → key (intsAt acc j).toNat ≤ d) → (k = acc.length ∨ ¬ key (intsAt acc k).toNat ≤ d) → posOf key acc d = k := by
  intro acc
  induction acc with
  | nil => intro k hk _ _; simp at hk; subst hk; rfl
  | cons x l ih =>
    intro k hk h1 h2
    cases k with
    | zero =>
      rcases h2 with h2 | h2
      · simp at h2
      · unfold posOf; rw [List.takeWhile_cons, if_neg (by simpa [intsAt] using h2)]; rfl
    | succ k =>
      have hx : key x.toNat ≤ d := by have := h1 0 (by omega); simpa [intsAt] using this
      have := ih k (by simpa using hk) (fun j hj => by have := h1 (j + 1) (by omega); simpa [intsAt] using this) (by
        rcases h2 with h2 | h2
        · left; simpa using h2
        · right; simpa [intsAt] using h2)
      unfold posOf at this ⊢
      rw [List.takeWhile_cons, if_pos (by simpa using hx), List.length_cons, this]
theorem posOf_le (key : Nat → Int) (acc : List Int) (d : Int) : posOf key acc d ≤ acc.length := by
  unfold posOf; exact (List.takeWhile_sublist _).length_le
theorem posOf_lo {key : Nat → Int} {d : Int} : ∀ (acc : List Int) (j : Nat), j < posOf key acc d → key (intsAt acc j).toNat ≤ d := by
  intro acc
  induction acc with
  | nil => intro j h; simp [posOf] at h
  | cons x l ih =>
    intro j h
    unfold posOf at h
    rw [List.takeWhile_cons] at h
    split at h
    · rename_i hx
      cases j with
      | zero => simpa [intsAt] using hx
      | succ j => have := ih j (by unfold posOf; simp at h; exact h); simpa [intsAt] using this
    · simp at h
theorem posOf_hi {key : Nat → Int} {d : Int} : ∀ (acc : List Int), posOf key acc d < acc.length → ¬ key (intsAt acc (posOf key acc d)).toNat ≤ d := by
  intro acc
  induction acc with
  | nil => intro h; simp at h
  | cons x l ih =>
    intro h
    unfold posOf at h ⊢
    rw [List.takeWhile_cons] at h ⊢
    split
    · rename_i hx
      rw [if_pos hx] at h
      have := ih (by unfold posOf; simpa using h)
      simpa [intsAt, posOf] using this
    · rename_i hx
      simpa [intsAt] using hx
/-- The first n indices by their keys. -/
def orderBy (key : Nat → Int) : Nat → List Int
  | 0 => []
  | n + 1 => insAt (orderBy key n) (posOf key (orderBy key n) (key n)) n
theorem orderBy_len (key : Nat → Int) : ∀ n, (orderBy key n).length = n
  | 0 => rfl
  | n + 1 => by rw [orderBy, insAt_len, orderBy_len key n]
theorem orderBy_mem (key : Nat → Int) : ∀ n j, j < n → ∃ b : Nat, intsAt (orderBy key n) j = b ∧ b < n := by
  intro n
  induction n with
  | zero => intro j h; omega
  | succ n ih =>
    intro j hj
    have hle := posOf_le key (orderBy key n) (key n)
    rw [orderBy, insAt_at hle j (by rw [orderBy_len]; omega)]
    rw [orderBy_len] at hle
    split
    · obtain ⟨b, e, h⟩ := ih j (by omega); exact ⟨b, e, by omega⟩
    · split
      · exact ⟨n, rfl, by omega⟩
      · obtain ⟨b, e, h⟩ := ih (j - 1) (by omega); exact ⟨b, e, by omega⟩
theorem orderBy_sorted (key : Nat → Int) : ∀ n a b, a ≤ b → b < n → key (intsAt (orderBy key n) a).toNat ≤ key (intsAt (orderBy key n) b).toNat := by
  intro n
  induction n with
  | zero => intro a b _ h; omega
  | succ n ih =>
    intro a b hab hb
    have hle := posOf_le key (orderBy key n) (key n)
    have hlo := @posOf_lo key (key n) (orderBy key n)
    have hhi := @posOf_hi key (key n) (orderBy key n)
    rw [orderBy, insAt_at hle a (by rw [orderBy_len]; omega), insAt_at hle b (by rw [orderBy_len]; omega)]
    rw [orderBy_len] at hle hhi
    generalize posOf key (orderBy key n) (key n) = k at hle hlo hhi ⊢
    by_cases h1 : b < k
    · rw [if_pos (by omega), if_pos h1]; exact ih a b hab (by omega)
    · rw [if_neg h1]
      by_cases h2 : b = k
      · rw [if_pos h2]
        by_cases h3 : a < k
        · rw [if_pos h3]; simpa using hlo a h3
        · rw [if_neg h3, if_pos (by omega)]; exact Int.le_refl _
      · rw [if_neg h2]
        by_cases h3 : a < k
        · rw [if_pos h3]; exact ih a (b - 1) (by omega) (by omega)
        · rw [if_neg h3]
          by_cases h4 : a = k
          · rw [if_pos h4]
            have h5 := hhi (by omega)
            have h6 := ih k (b - 1) (by omega) (by omega)
            have h7 : (Int.toNat (n : Int)) = n := by simp
            rw [h7]
            omega
          · rw [if_neg h4]; exact ih (a - 1) (b - 1) (by omega) (by omega)
/-- Found from the end: all from k on have a greater key, and the one before k has none. -/
theorem posOf_down {key : Nat → Int} {n k : Nat} (hk : k ≤ n) (h1 : ∀ j, k ≤ j → j < n → ¬ key (intsAt (orderBy key n) j).toNat ≤ key n) (h2 : k = 0 ∨ key (intsAt (orderBy key n) (k - 1)).toNat ≤ key n) : posOf key (orderBy key n) (key n) = k := by
  refine posOf_eq _ k (by rw [orderBy_len]; exact hk) (fun j hj => ?_) ?_
  · rcases h2 with h2 | h2
    · omega
    · exact Int.le_trans (orderBy_sorted key n j (k - 1) (by omega) (by omega)) h2
  · by_cases h : k = n
    · left; rw [orderBy_len]; exact h
    · right; exact h1 k (Nat.le_refl _) (by omega)
theorem posOf_up {key : Nat → Int} {n k : Nat} (hk : k ≤ n) (h1 : ∀ j, j < k → key (intsAt (orderBy key n) j).toNat ≤ key n) (h2 : k = n ∨ ¬ key (intsAt (orderBy key n) k).toNat ≤ key n) : posOf key (orderBy key n) (key n) = k :=
  posOf_eq _ k (by rw [orderBy_len]; exact hk) h1 (by rw [orderBy_len]; exact h2)

/-! ### Cells behind a copy into the same row -/
theorem own_cur {w : World} {base n g c : Nat} {e : TypeId} {xs : List Value} (ho : w.ownsRow base e 1 (.slice (some ⟨g, 0, none⟩) n c) n xs) :
    ∃ cur : List Value, w.heap[g]? = some (.cells cur.toArray e (0, 0)) ∧ base ≤ g ∧ n ≤ c ∧ c ≤ maxLen ∧ cur.length = c ∧ cur.take n = xs ∧
      ∀ (off : Nat) (cs : List Value) (w' : World), off + cs.length ≤ n → Hid (w'.heap[g]? = some (.cells (splice cur off cs).toArray e (0, 0))) → w'.ownsRow base e 1 (.slice (some ⟨g, 0, none⟩) n c) n (splice xs off cs) := by
  rcases ho.2 with ⟨h, _⟩ | ⟨g', cap, cur, hv, hb, hh, hn, hc, hs, ht⟩
  · cases h
  · injection hv with h1 h2 h3
    injection h1 with h1
    injection h1 with h1
    subst h1; subst h3
    have hs' : cur.toList.length = c := by simpa using hs
    refine ⟨cur.toList, by simpa using hh, hb, hn, hc, hs', by simpa using ht, fun off cs w' hoff hw' => ?_⟩
    have hl : (splice cur.toList off cs).length = c := by rw [length_splice _ _ _ (by omega)]; exact hs'
    refine ⟨by rw [length_splice _ _ _ (by rw [ho.1]; omega)]; exact ho.1, .inr ⟨g, c, (splice cur.toList off cs).toArray, rfl, hb, hw'.out, hn, hc, by simpa using hl, ?_⟩⟩
    have ht' : cur.toList.take n = xs := by simpa using ht
    simp only [Nat.mul_one]
    rw [← ht']
    unfold splice
    refine List.ext_getElem? fun j => ?_
    simp only [List.getElem?_take, List.getElem?_append, List.length_take, List.getElem?_drop]
    by_cases h1 : j < n
    · simp only [h1, if_true]
      by_cases h2 : j < off
      · simp only [show j < min off cur.toList.length by omega, show j < min off (min n cur.toList.length) by omega, h2, if_true]
      · have e1 : ¬ j < min off cur.toList.length := by omega
        have e2 : ¬ j < min off (min n cur.toList.length) := by omega
        rw [if_neg e1, if_neg e2]
        have e3 : min off cur.toList.length = off := by omega
        have e4 : min off (min n cur.toList.length) = off := by omega
        rw [e3, e4]
        by_cases h3 : j - off < cs.length
        · rw [if_pos h3, if_pos h3]
        · rw [if_neg h3, if_neg h3, if_pos (by omega)]
    · simp only [h1, if_false]
      have e2 : ¬ j < min off (min n cur.toList.length) := by omega
      rw [if_neg e2]
      have e4 : min off (min n cur.toList.length) = off := by omega
      rw [e4, if_neg (by omega), if_neg (by omega)]
/-- What the shift by one gives: room at k. -/
theorem splice_shift (acc : List Int) (k : Nat) (hk : k ≤ acc.length) (i : Int) :
    (splice (intsRow (acc ++ [0])) (k + 1) (((intsRow (acc ++ [0])).drop k).take (acc.length - k))).set k (.int .i64 i) = intsRow (insAt acc k i) := by
  have e : intsRow (acc ++ [0]) = intsRow acc ++ [.int .i64 0] := by rw [intsRow_append]; rfl
  have hl : (intsRow acc).length = acc.length := intsRow_len acc
  have hd : ((intsRow (acc ++ [0])).drop k).take (acc.length - k) = (intsRow acc).drop k := by
    rw [e, List.drop_append_of_le_length (by omega), List.take_append_of_le_length (by simp [hl])]
    exact List.take_of_length_le (by simp [hl])
  rw [hd]
  have hi : intsRow (insAt acc k i) = (intsRow acc).take k ++ .int .i64 i :: (intsRow acc).drop k := by
    simp [insAt, intsRow, List.map_take, List.map_drop]
  rw [hi]
  unfold splice
  refine List.ext_getElem? fun j => ?_
  have hl1 : ((intsRow (acc ++ [0])).take (k + 1)).length = k + 1 := by rw [List.length_take, intsRow_len]; simp; omega
  have hl2 : ((intsRow acc).take k).length = k := by rw [List.length_take]; omega
  rw [List.getElem?_set, List.getElem?_append, List.getElem?_append, List.getElem?_append, hl2, hl1]
  by_cases h1 : k = j
  · subst h1
    rw [if_pos rfl, if_pos (by rw [List.length_append, hl1]; omega), if_neg (show ¬ k < k by omega), Nat.sub_self]
    rfl
  · rw [if_neg h1]
    by_cases h2 : j < k
    · rw [if_pos (by omega), if_pos h2, List.getElem?_take, List.getElem?_take, if_pos (by omega), if_pos h2, e, List.getElem?_append_left (by omega)]
    · rw [if_neg (by omega), if_neg h2]
      obtain ⟨m, rfl⟩ : ∃ m, j = k + 1 + m := ⟨j - k - 1, by omega⟩
      rw [show k + 1 + m - (k + 1) = m by omega, show k + 1 + m - k = m + 1 by omega, List.getElem?_cons_succ]
      by_cases h3 : m < ((intsRow acc).drop k).length
      · rw [if_pos h3]
      · rw [if_neg h3]
        simp only [List.length_drop, hl] at h3
        rw [List.getElem?_eq_none (by simp only [List.length_drop, intsRow_len, List.length_append, List.length_singleton, hl]; omega), List.getElem?_eq_none (by simp only [List.length_drop, hl]; omega)]

/-- The law of a copy by one place within an owned row: 'copy(out[k+1:], out[k:])'. -/
theorem step_shift {P : Program} {ops : Array Oper} {o : Oper} {a : Act} {w : World} {K : Act → World → Prop} {Q : Exit → Act → World → Prop} {E : Prop} (hgd : o.guard = none) (d s : Operand) (dT sT : TypeId)
    (ho : o.op = .call { callee := .builtin .copy, args := #[d, s], argTypes := #[dT, sT] }) (elem : TypeId) (hu : P.underlying dT = some (.slice elem)) (hsz : (P.info? elem).map (·.size) = some 1)
    (dp sp : Option Addr) (dLen dCap sLen sCap : Nat) (hd : a.eval d = .slice dp dLen dCap) (hs : a.eval s = .slice sp sLen sCap)
    {base g n c : Nat} {xs : List Value} (hown : w.ownsRow base elem 1 (.slice (some ⟨g, 0, none⟩) n c) n xs) (k : Nat) (hk : k < n) (hdl : dLen = n - (k + 1)) (hsl : sLen = n - k)
    (hdp : 0 < dLen → dp = some ⟨g, k + 1, none⟩) (hsp : 0 < dLen → sp = some ⟨g, k, none⟩) (h1 : ∀ v ∈ xs, v.oneCell' = true)
    (h : ∀ w', w'.ownsRow base elem 1 (.slice (some ⟨g, 0, none⟩) n c) n (splice xs (k + 1) ((xs.drop k).take (n - (k + 1)))) → Below base w w' → K (a.put o.dst (goInt ((xs.drop k).take (n - (k + 1))).length)) w') :
    if Region.wanted o (yielded ops a.tmps) = true then Oper.wp P o a w K Q else E := by
  obtain ⟨cur, hcur, hbg, hnc, hcm, hcl, hct, hcopy⟩ := own_cur hown
  have hxl : xs.length = n := by have := hown.1; omega
  have hcs : ((xs.drop k).take (n - (k + 1))).length = n - (k + 1) := by simp [hxl]; omega
  refine step_copy_splice hgd d s dT sT ho elem hu hsz dp sp dLen dCap sLen sCap hd hs g (k + 1) cur elem hcur _ (by rw [hcs, hsl, hdl]; exact (Nat.min_eq_right (by omega)).symm) (fun hp => ?_) (by rw [hcs]; omega) (fun v hv => h1 v (List.mem_of_mem_drop (List.mem_of_mem_take hv))) base w (Below.refl _ _) hbg (fun w' hw' hb' => h w' (hcopy _ _ w' (by rw [hcs]; omega) hw') hb')
  rw [hcs, ← hdl] at hp
  refine ⟨hdp hp, _, hsp hp, fun j v hv => ?_⟩
  have hj : j < n - (k + 1) := by rw [← hcs]; exact (List.getElem?_eq_some_iff.1 hv).1
  have ha : (⟨g, k, none⟩ : Addr).add j = ⟨g, k + j, none⟩ := by unfold Addr.add; split <;> simp_all
  rw [ha, hown.cellAt (k + j) (by omega), ← hv, List.getElem?_take, if_pos hj, List.getElem?_drop]

/-! ### A beginning and a rest of an owned row -/
theorem own_take {w : World} {base g n c : Nat} {e : TypeId} {xs : List Value} (ho : w.ownsRow base e 1 (.slice (some ⟨g, 0, none⟩) n c) n xs) {k : Nat} (hk : k ≤ n) : Sl w 1 (.slice (some ⟨g, 0, none⟩) k c) k (xs.take k) := by
  obtain ⟨_, h1, h2⟩ := own_caps ho
  refine ⟨_, _, rfl, by omega, h2, ?_⟩
  have := (Rd.of_own ho).take hk
  rwa [Nat.mul_one] at this
theorem own_drop {w : World} {base g n c : Nat} {e : TypeId} {xs : List Value} (ho : w.ownsRow base e 1 (.slice (some ⟨g, 0, none⟩) n c) n xs) {k : Nat} (hk : k ≤ n) {A : Option Addr} (hA : k < n → A = some ⟨g, k, none⟩) : Rd w w.heap.size 1 A (n - k) (xs.drop k) := by
  rcases Nat.lt_or_ge k n with h | h
  · rw [hA h]
    have := (Rd.of_own ho).drop hk
    rwa [Nat.mul_one, Nat.zero_add] at this
  · obtain rfl : k = n := by omega
    refine ⟨by rw [List.length_drop, ho.1]; omega, fun hn => absurd hn (by omega)⟩
theorem intsRow_insAt (acc : List Int) (k : Nat) (i : Int) : ((intsRow acc).take k ++ [.int .i64 i]) ++ (intsRow acc).drop k = intsRow (insAt acc k i) := by
  simp [insAt, intsRow, List.map_take, List.map_drop]

end Go.Proofs.Ytfkindkekjafnaa
