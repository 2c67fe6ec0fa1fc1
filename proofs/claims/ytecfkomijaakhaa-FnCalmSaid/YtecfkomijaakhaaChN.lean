/- Longest chains, plain: the reference's chains are all chains; the program's table; both answer alike. -/
import Derived.Test.YtecfkomijaakhaaChM
namespace Go.Proofs.Ytecfkomijaakhaa
open Go.RowKit

/-- The place of a step in the first order. -/
theorem place_is {L : List Step} (h : isRecipe L = true) {i : Nat} (hi : i < L.length) : ∃ q : Nat, q < L.length ∧ intsAt (firstOrd L) q = i ∧ intsAt (placeK L L.length) i = q := by
  obtain ⟨_, hok, hfl⟩ := isRecipe_iff.1 h
  obtain ⟨q, hq, hqi⟩ := List.mem_iff_getElem.1 (hasI_iff.1 (firstOrd_full.1 hfl i hi))
  rw [← intsAt_lt hq] at hqi
  have p1 := place_at (L := L) (firstOrd L).length (Nat.le_refl _) q hq
  rw [hqi, Int.toNat_natCast, hfl] at p1
  exact ⟨q, by omega, hqi, p1⟩
theorem bef_bd {L : List Step} (h : isRecipe L = true) {i k : Nat} (hk : k < L.length) (hb : befN L i k = true) : i < L.length ∧ i ≠ k ∧ intsAt (placeK L L.length) i < intsAt (placeK L L.length) k := by
  have := after_place h hk (hasI_iff.1 hb)
  refine ⟨this.1, fun e => ?_, this.2⟩
  subst e; omega
theorem befN_self {L : List Step} (h : isRecipe L = true) {i : Nat} (hi : i < L.length) : befN L i i = false := by
  cases e : befN L i i
  · rfl
  · exact absurd rfl (bef_bd h hi e).2.1
/-! ### All chains -/
theorem ch_snoc {L : List Step} {s : Nat} : ∀ {c : List Nat}, Ch L (c ++ [s]) ↔ Ch L c ∧ s < L.length ∧ ∀ j, c.getLast? = some j → befN L j s = true
  | [] => by simp [Ch]
  | [a] => by
    constructor
    · rintro ⟨h1, h2, h3, _, _⟩
      exact ⟨⟨h1, fun k hk => by simp at hk, trivial⟩, h3, fun j hj => by simp at hj; subst hj; exact h2 s rfl⟩
    · rintro ⟨⟨h1, _, _⟩, h3, h2⟩
      exact ⟨h1, fun k hk => by simp at hk; subst hk; exact h2 a rfl, h3, fun k hk => by simp at hk, trivial⟩
  | a :: b :: c => by
    have ih := ch_snoc (L := L) (s := s) (c := b :: c)
    constructor
    · rintro ⟨h1, h2, h3⟩
      obtain ⟨k1, k2, k3⟩ := ih.1 h3
      exact ⟨⟨h1, fun k hk => h2 k (by simpa using hk), k1⟩, k2, fun j hj => k3 j (by simpa using hj)⟩
    · rintro ⟨⟨h1, h2, k1⟩, k2, k3⟩
      exact ⟨h1, fun k hk => h2 k (by simpa using hk), ih.2 ⟨k1, k2, fun j hj => k3 j (by simpa using hj)⟩⟩
theorem chains_sound {L : List Step} (h : isRecipe L = true) : ∀ (f s : Nat), s < L.length → ∀ c ∈ chainsN L f s, Ch L c ∧ c.getLast? = some s ∧ c.length ≤ f
  | 0, _, _, c, hc => by simp [chainsN] at hc
  | f + 1, s, hs, c, hc => by
    obtain ⟨_, hok, hfl⟩ := isRecipe_iff.1 h
    simp only [chainsN, List.mem_cons, List.mem_flatMap, List.mem_map] at hc
    rcases hc with rfl | ⟨j, hj, c, hc, rfl⟩
    · exact ⟨by simp [Ch, hs], rfl, by simp⟩
    · obtain ⟨b1, b2⟩ := (steps_bd hok hs).2.2.1 j hj
      obtain ⟨h1, h2, h3⟩ := chains_sound h f j.toNat (by omega) c hc
      refine ⟨ch_snoc.2 ⟨h1, hs, fun k hk => ?_⟩, by simp, by simp; omega⟩
      rw [h2] at hk
      injection hk with hk
      subst hk
      rw [befN, hasI_iff, Int.toNat_of_nonneg b1]; exact hj
theorem chains_all {L : List Step} (h : isRecipe L = true) : ∀ (f s : Nat), s < L.length → intsAt (placeK L L.length) s < f → ∀ c, Ch L c → c.getLast? = some s → c ∈ chainsN L f s
  | 0, s, hs, hp, _, _, _ => by
    obtain ⟨q, _, _, hq⟩ := place_is h hs
    omega
  | f + 1, s, hs, hp, c, hc, hl => by
    obtain ⟨d, rfl⟩ : ∃ d, c = d ++ [s] := by
      rw [List.getLast?_eq_some_iff] at hl; exact hl
    obtain ⟨h1, h2, h3⟩ := ch_snoc.1 hc
    simp only [chainsN, List.mem_cons, List.mem_flatMap, List.mem_map]
    cases e : d.getLast? with
    | none =>
      rw [List.getLast?_eq_none_iff] at e
      subst e; exact Or.inl rfl
    | some j =>
      have hb := h3 j e
      obtain ⟨b1, b2, b3⟩ := bef_bd h hs hb
      exact Or.inr ⟨(j : Int), hasI_iff.1 hb, d, chains_all h f j b1 (by omega) d h1 e, rfl⟩
theorem rises_len9 {n : Nat} {l : List Int} (h : risesN n l = true) : l.length ≤ n := by
  have key : ∀ i, i < l.length → (i : Int) ≤ intsAt l i := by
    intro i
    induction i with
    | zero => intro hi; have := risesN_iff.1 h 0 hi; omega
    | succ i ih =>
      intro hi
      have h1 := ih (by omega)
      have h2 := (risesN_iff.1 h (i + 1) hi).2.2 (by omega)
      rw [Nat.add_sub_cancel] at h2
      omega
  cases e : l.length with
  | zero => omega
  | succ m =>
    have h1 := key m (by omega)
    have h2 := risesN_iff.1 h m (by omega)
    omega
theorem chains_count {L : List Step} (h : isRecipe L = true) : ∀ (f s : Nat), s < L.length → (chainsN L f s).length ≤ 10 ^ f
  | 0, _, _ => by simp [chainsN]
  | f + 1, s, hs => by
    obtain ⟨h9, hok, hfl⟩ := isRecipe_iff.1 h
    have key : ∀ l : List Int, (∀ j ∈ l, 0 ≤ j ∧ j < L.length) → (l.flatMap fun j => (chainsN L f j.toNat).map (· ++ [s])).length ≤ l.length * 10 ^ f := by
      intro l
      induction l with
      | nil => intro _; simp
      | cons a l ih =>
        intro hl
        have h1 := ih (fun j hj => hl j (List.mem_cons_of_mem _ hj))
        have h2 := hl a (List.mem_cons_self ..)
        have h3 := chains_count h f a.toNat (by omega)
        rw [List.flatMap_cons, List.length_append, List.length_map, List.length_cons, Nat.succ_mul]
        omega
    have h1 := key _ (steps_bd hok hs).2.2.1
    have h2 : (stepAt L s).after.length ≤ 9 := by
      have h0 := stepsOk_iff.1 hok s hs
      simp only [stepOk, Bool.and_eq_true] at h0
      have := rises_len9 h0.1.2
      omega
    have h3 : (stepAt L s).after.length * 10 ^ f ≤ 9 * 10 ^ f := Nat.mul_le_mul_right _ h2
    have h4 : 0 < 10 ^ f := Nat.pow_pos (by omega)
    rw [chainsN, List.length_cons, Nat.pow_succ]
    omega
end Go.Proofs.Ytecfkomijaakhaa
