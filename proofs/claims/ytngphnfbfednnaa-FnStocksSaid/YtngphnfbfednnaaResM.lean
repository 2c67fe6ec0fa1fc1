/- ReserveAll, MissingPieces: what they give (no walks). -/
import Derived.Test.YtngphnfbfednnaaStockC
namespace Go.Proofs.Ytngphnfbfednnaa
open Go.RowKit

def allIn (L : List Bin) (cs : List ByteArray) : Bool := cs.all fun c => (binIx L c).isSome
def resGo : List Bin → List ByteArray → Option (List Bin)
  | M, [] => some M
  | M, c :: cs => if (binAt M (ix M c)).reserved = (binAt M (ix M c)).amount then none else resGo (binSet M (ix M c) (binAt M (ix M c)).amount ((binAt M (ix M c)).reserved + 1)) cs
def reserveAll (L : List Bin) (cs : List ByteArray) : List Bin × Int :=
  if isStock L = false then ([], 1) else if 60 < cs.length then ([], 2) else if allIn L cs = false then ([], 4) else match resGo L cs with
  | none => ([], 5)
  | some M => (M, 0)
theorem resGo_len : ∀ (cs : List ByteArray) (M N : List Bin), resGo M cs = some N → N.length = M.length := by
  intro cs
  induction cs with
  | nil => intro M N h; simp only [resGo, Option.some.injEq] at h; subst h; rfl
  | cons c cs ih =>
    intro M N h
    simp only [resGo] at h
    split at h
    · cases h
    · rw [ih _ _ h, binSet_len]
theorem reserveAll_len (L : List Bin) (cs : List ByteArray) : (reserveAll L cs).1.length ≤ 4194304 := by
  unfold reserveAll
  split
  · simp
  · split
    · simp
    · split
      · simp
      · rename_i h1 _ _
        have := isStock_le (L := L) (by simpa using h1)
        split
        · simp
        · rename_i M hM
          rw [resGo_len _ _ _ hM]; omega
theorem allIn_bad {L : List Bin} {cs : List ByteArray} {k : Nat} (hk : k < cs.length) (h : binIx L (strsAt cs k) = none) : allIn L cs = false := by
  rw [allIn, List.all_eq_false]
  exact ⟨strsAt cs k, by rw [strsAt_lt hk]; exact List.getElem_mem hk, by simp [h]⟩
theorem allIn_good {L : List Bin} {cs : List ByteArray} (h : ∀ k, k < cs.length → binIx L (strsAt cs k) ≠ none) : allIn L cs = true := by
  rw [allIn, List.all_eq_true]
  intro c hc
  obtain ⟨k, hk, rfl⟩ := List.mem_iff_getElem.1 hc
  have := h k hk
  rw [strsAt_lt hk] at this
  cases e : binIx L cs[k]
  · exact absurd e this
  · rfl
theorem strs_drop {cs : List ByteArray} {k : Nat} (h : k < cs.length) : cs.drop k = strsAt cs k :: cs.drop (k + 1) := by
  rw [List.drop_eq_getElem_cons h, strsAt_lt h]
/-- What holds behind k codes: M is what is left to be reserved of. -/
def ResInv (L : List Bin) (cs : List ByteArray) (k : Nat) (M : List Bin) : Prop := M.length = L.length ∧ isStock M = true ∧ (∀ c, binIx M c = binIx L c) ∧ resGo M (cs.drop k) = resGo L cs
theorem ResInv.start {L : List Bin} (cs : List ByteArray) (h : isStock L = true) : ResInv L cs 0 L := ⟨rfl, h, fun _ => rfl, by simp⟩
theorem ResInv.full {L M : List Bin} {cs : List ByteArray} {k i : Nat} (h : ResInv L cs k M) (hk : k < cs.length) (hi : binIx M (strsAt cs k) = some i) (he : (binAt M i).reserved = (binAt M i).amount) : resGo L cs = none := by
  rw [← h.2.2.2, strs_drop hk, resGo, ix_some hi, if_pos he]
theorem ResInv.step {L M : List Bin} {cs : List ByteArray} {k i : Nat} (h : ResInv L cs k M) (hk : k < cs.length) (hi : binIx M (strsAt cs k) = some i) (he : (binAt M i).reserved ≠ (binAt M i).amount) :
    ResInv L cs (k + 1) (binSet M i (binAt M i).amount ((binAt M i).reserved + 1)) := by
  have hlt := (binIx_some.1 hi).1
  obtain ⟨_, ⟨a1, a2⟩, ⟨r1, r2⟩, _⟩ := stock_bin h.2.1 hlt
  refine ⟨by rw [binSet_len]; exact h.1, isStock_set h.2.1 hlt (by omega), fun c => by rw [binSet_ix _ _ _ _ hlt]; exact h.2.2.1 c, ?_⟩
  rw [← h.2.2.2, strs_drop hk, resGo, ix_some hi, if_neg he]
theorem ResInv.last {L M : List Bin} {cs : List ByteArray} {k : Nat} (h : ResInv L cs k M) (hk : k = cs.length) : resGo L cs = some M := by
  rw [← h.2.2.2, hk, List.drop_length, resGo]

def missGo : List Bin → List ByteArray → List ByteArray
  | _, [] => []
  | M, c :: cs => match binIx M c with
    | none => c :: missGo M cs
    | some i => if (binAt M i).reserved = (binAt M i).amount then c :: missGo M cs else missGo (binSet M i (binAt M i).amount ((binAt M i).reserved + 1)) cs
def missing (L : List Bin) (cs : List ByteArray) : List ByteArray × Int :=
  if isStock L = false then ([], 1) else if 60 < cs.length then ([], 2) else (missGo L cs, 0)
theorem missGo_len : ∀ (cs : List ByteArray) (M : List Bin), (missGo M cs).length ≤ cs.length := by
  intro cs
  induction cs with
  | nil => intro M; simp [missGo]
  | cons c cs ih =>
    intro M
    simp only [missGo]
    split
    · simp [ih]
    · split
      · simp [ih]
      · have := ih (binSet M ‹Nat› (binAt M ‹Nat›).amount ((binAt M ‹Nat›).reserved + 1)); simp; omega
theorem missing_len (L : List Bin) (cs : List ByteArray) : (missing L cs).1.length ≤ 4194304 := by
  unfold missing
  split
  · simp
  · split
    · simp
    · have := missGo_len cs L; simp; omega
/-- What holds behind k codes: ns are missing. -/
def MissInv (L : List Bin) (cs : List ByteArray) (k : Nat) (M : List Bin) (ns : List ByteArray) : Prop := M.length = L.length ∧ isStock M = true ∧ ns.length ≤ k ∧ ns ++ missGo M (cs.drop k) = missGo L cs
theorem MissInv.start {L : List Bin} (cs : List ByteArray) (h : isStock L = true) : MissInv L cs 0 L [] := ⟨rfl, h, Nat.le_refl _, by simp⟩
theorem MissInv.none_ {L M : List Bin} {cs ns : List ByteArray} {k : Nat} (h : MissInv L cs k M ns) (hk : k < cs.length) (hi : binIx M (strsAt cs k) = none) : MissInv L cs (k + 1) M (ns ++ [strsAt cs k]) := by
  refine ⟨h.1, h.2.1, by have := h.2.2.1; simp; omega, ?_⟩
  rw [← h.2.2.2, strs_drop hk, missGo, hi]; simp
theorem MissInv.full {L M : List Bin} {cs ns : List ByteArray} {k i : Nat} (h : MissInv L cs k M ns) (hk : k < cs.length) (hi : binIx M (strsAt cs k) = some i) (he : (binAt M i).reserved = (binAt M i).amount) : MissInv L cs (k + 1) M (ns ++ [strsAt cs k]) := by
  refine ⟨h.1, h.2.1, by have := h.2.2.1; simp; omega, ?_⟩
  rw [← h.2.2.2, strs_drop hk, missGo, hi]; simp [he]
theorem MissInv.step {L M : List Bin} {cs ns : List ByteArray} {k i : Nat} (h : MissInv L cs k M ns) (hk : k < cs.length) (hi : binIx M (strsAt cs k) = some i) (he : (binAt M i).reserved ≠ (binAt M i).amount) :
    MissInv L cs (k + 1) (binSet M i (binAt M i).amount ((binAt M i).reserved + 1)) ns := by
  have hlt := (binIx_some.1 hi).1
  obtain ⟨_, ⟨a1, a2⟩, ⟨r1, r2⟩, _⟩ := stock_bin h.2.1 hlt
  refine ⟨by rw [binSet_len]; exact h.1, isStock_set h.2.1 hlt (by omega), by have := h.2.2.1; omega, ?_⟩
  rw [← h.2.2.2, strs_drop hk, missGo, hi]; simp [he]
theorem MissInv.last {L M : List Bin} {cs ns : List ByteArray} {k : Nat} (h : MissInv L cs k M ns) (hk : k = cs.length) : missGo L cs = ns := by
  rw [← h.2.2.2, hk, List.drop_length, missGo, List.append_nil]

end Go.Proofs.Ytngphnfbfednnaa
