/- DrawReserveAll, DrawMergeStocks: what they leave. Printed by gen_drawst.py. -/
import Derived.Test.YtngphnfbfednnaaDrawB
import Derived.Test.YtngphnfbfednnaaStock
import Derived.Test.YtngphnfbfednnaaApart
namespace Go.Proofs.Ytngphnfbfednnaa
open Go.RowKit

theorem strsFit_app {cs : List ByteArray} {s : ByteArray} (hf : strsFit cs) (hs : s.size ≤ maxLen) : strsFit (cs ++ [s]) := by
  intro i hi
  simp only [List.length_append, List.length_cons, List.length_nil] at hi
  by_cases h : i < cs.length
  · rw [strsAt_append_lt h]; exact hf i h
  · have : i = cs.length := by omega
    subst this
    have : strsAt (cs ++ [s]) cs.length = s := by simp [strsAt, List.getD]
    rw [this]; exact hs
theorem strsFit_same (n : Nat) : strsFit (List.replicate n ⟨#[]⟩) := by
  intro i hi
  have : strsAt (List.replicate n ⟨#[]⟩) i = ⟨#[]⟩ := by simp only [List.length_replicate] at hi; simp [strsAt, List.getD, hi]
  rw [this]; simp [ByteArray.size]
set_option maxHeartbeats 4000000 in
theorem drawReserveAll_any (w : World) (A : Option Addr) (n c : Nat) (hcode : Code w A n) (hn : n ≤ 4096) (hc : n ≤ c ∧ c ≤ maxLen) :
    Calls Try.prog 44 #[.slice A n c] w fun e w' => ∃ (L : List Bin) (v : Value) (cs : List ByteArray) (u : Value), e = .returned (.tuple #[v, u]) ∧ w'.ownsRow w.heap.size 58 5 v L.length (binRow L) ∧ binFit L ∧ L.length ≤ 21 ∧ w'.ownsRow w.heap.size 9 1 u cs.length (strsRow cs) ∧ strsFit cs ∧ cs.length ≤ 61 ∧ Below w.heap.size w w' := by
  go_enter Try.func44, Try.ntmps44
  go_wp2_with fail
  refine (from_any w A n c hcode hn hc).mono ?_
  rintro e w2 ⟨rfl, hs2, hb2⟩
  have Hs2 := Lib.hid hs2
  have hsz2 := hb2.size
  have hgl2 := hs2.lt
  clear hs2
  go_wp2_with fail
  refine (draw_any w2 w.heap.size w.heap.size A n c Hs2.out).mono ?_
  rintro e w3 ⟨L, v, rfl, ho3, hf, hL, hs3, hg3⟩
  obtain ⟨Ao, co, rfl, hoc, hoc2⟩ := own_slice ho3
  have Hs3 := Lib.hid hs3
  have hone : (Value.slice Ao L.length co).ownBlock ≠ some w.heap.size := fun h => by have := (World.ownsRow.lt ho3 _ h).1; omega
  have Hone := Lib.hid hone
  have Ho3 := Lib.hid ho3
  have Hf := Lib.hid hf
  have hgl3 : w.heap.size < w3.heap.size := hs3.lt
  have b3 : Below w.heap.size w w3 := hb2.trans (below_gb hg3 (Nat.le_refl _) (by omega))
  clear hs3 hg3 ho3 hone hf
  obtain ⟨i0, hi, hz0, hz1, hz2⟩ := info_parts Try.info_strs
  have LO0 := Lib.hid (show ∀ q, (Value.slice Ao L.length co).ownBlock = some q → q < w3.heap.size from fun q h => (World.ownsRow.lt Ho3.out q h).2)
  have hsz3 := b3.size
  have Hoc3 : Hid ((w3.alloc (.cells #[] 9)).ownsRow w3.heap.size 9 1 (.slice (some ⟨w3.heap.size, 0, none⟩) 0 0) 0 []) := Lib.hid (own_empty _ _ _ (Nat.le_refl _))
  go_wp2_with fail
  refine (next_any _ w.heap.size w.heap.size A n c 7 (Hs3.out.below ((Below.refl _ _).alloc (Nat.le_refl _) (.cells #[] 9)))).mono ?_
  rintro e w4 ⟨x, rfl, hx, hs, hg⟩
  have hx7 : x < 7 := by omega
  have Hoc4 := Lib.hid (Hoc3.out.kept hg (.inr (fun h => by simp [Value.ownBlock] at h; omega)))
  have Ho4 := Lib.hid ((Ho3.out.alloc _).kept hg (.inr Hone.out))
  have Hs4 := Lib.hid hs
  have b4 : Below w.heap.size w w4 := (b3.alloc (by have := b3.size; first | omega | (simp; omega)) (.cells #[] 9)).trans (below_gb hg (Nat.le_refl _) (by first | omega | (simp; omega)))
  have hgl4 : w.heap.size < w4.heap.size := hs.lt
  clear hg hs
  clear hx
  go_wp2
  go_loopw [6, 7] (fun cv iv wr => ∃ (cs : List ByteArray) (Ac : Option Addr) (cc k : Nat), cv = .slice Ac cs.length cc ∧ iv = .int .i64 k ∧ k ≤ 7 ∧ k + cs.length ≤ 7 ∧ strsFit cs ∧ wr.ownsRow w3.heap.size 9 1 (.slice Ac cs.length cc) cs.length (strsRow cs) ∧ wr.ownsRow w2.heap.size 58 5 (.slice Ao L.length co) L.length (binRow L) ∧ Src wr w.heap.size w.heap.size A n c ∧ Below w.heap.size w wr ∧ w3.heap.size ≤ wr.heap.size) (fun _ iv _ => (intOf iv).toNat)
  case atStart => exact ⟨[], some ⟨w3.heap.size, 0, none⟩, 0, x, rfl, rfl, by omega, by simp; omega, (fun i hi => by simp at hi), Hoc4.out, Ho4.out, Hs4.out, b4, by have := World.ownsRow.lt Hoc4.out _ rfl; omega⟩
  case round =>
    clear Hoc3 Hoc4 Ho4 Hs4 b4 Hs3 Ho3 hgl4
    obtain ⟨cs, Ac, cc, k, rfl, rfl, hk, hkc, hcf, hoc, ho, hsr, hb, hsw⟩ := hrel
    have Hcf := Lib.hid hcf
    have Hoc := Lib.hid hoc
    have Ho := Lib.hid ho
    have Hs := Lib.hid hsr
    have hgl := hsr.lt
    have NC := Lib.hid (show (Value.slice Ac cs.length cc).ownBlock ≠ some w.heap.size from fun h => by have := (World.ownsRow.lt hoc _ h).1; omega)
    have NO := Lib.hid (show ∀ q, (Value.slice Ac cs.length cc).ownBlock = some q → w3.heap.size ≤ q ∧ q < wr.heap.size from fun q h => World.ownsRow.lt hoc q h)
    have LO := Lib.hid (show ∀ q, (Value.slice Ao L.length co).ownBlock = some q → q < w3.heap.size from LO0.out)
    clear hcf hoc ho hsr
    by_cases hk0 : 0 < k
    · skip
      by_cases hL0 : 0 < L.length
      · have hli : (0 : Int) < (L.length : Int) := by omega
        go_wp2_with fail
        refine (next_any _ w.heap.size w.heap.size A n c 24 Hs.out).mono ?_
        rintro e w5 ⟨y, rfl, hx, hs, hg⟩
        have Hs5 := Lib.hid hs
        have Ho5 := Lib.hid (Ho.out.kept hg (.inr Hone.out))
        have Hoc5 := Lib.hid (Hoc.out.kept hg (.inr NC.out))
        have hb5 : Below w.heap.size w w5 := hb.trans (below_gb hg (Nat.le_refl _) (by omega))
        have hgl5 := hs.lt
        have hsz5 := hg.size
        have NO5 := Lib.hid (show ∀ q, (Value.slice Ac cs.length cc).ownBlock = some q → w3.heap.size ≤ q ∧ q < w5.heap.size from fun q h => World.ownsRow.lt Hoc5.out q h)
        clear hs hg hx
        by_cases hy0 : 0 < y
        · by_cases h3 : (L.length : Int) < 3
          · skip
            have h3m : min 3 (L.length : Int) = (L.length : Int) := by omega
            have h3d : ¬ (3 : Int) < (L.length : Int) := by omega
            go_wp2_with fail
            refine (next_any _ w.heap.size w.heap.size A n c (L.length : Int) Hs5.out).mono ?_
            rintro e w6 ⟨z, rfl, hx, hs, hg⟩
            have hz : z < L.length := by omega
            have Hs6 := Lib.hid hs
            have Ho6 := Lib.hid (Ho5.out.kept hg (.inr Hone.out))
            have Hoc6 := Lib.hid (Hoc5.out.kept hg (.inr NC.out))
            have hb6 : Below w.heap.size w w6 := hb5.trans (below_gb hg (Nat.le_refl _) (by omega))
            have hgl6 := hs.lt
            have hsz6 := hg.size
            have NO6 := Lib.hid (show ∀ q, (Value.slice Ac cs.length cc).ownBlock = some q → w3.heap.size ≤ q ∧ q < w6.heap.size from fun q h => World.ownsRow.lt Hoc6.out q h)
            clear hs hg hx
            have Hnm := Lib.hid (Hf.out z hz)
            obtain ⟨gl, ol, rfl, hgl9, d0, d1, d2, d3, d4⟩ := (Rd.of_own Ho6.out).bin hz
            clear d1 d2 d3 d4
            have j0 : (0 : Int) ≤ (z : Int) := Int.natCast_nonneg _
            have j1 : (z : Int) < (L.length : Int) := by omega
            go_wp2_with (at_builtin; refine wpList_append_sl _ rfl (.tmp 27) (.tmp 37) _ rfl w3.heap.size 9 i0 _ 1 16 Try.underlying38 hi hz0 hz1 hz2 rfl (by omega) _ cs.length (strsRow cs) rfl (Hoc6.out.alloc _) (some ⟨w6.heap.size, 0, none⟩) 1 1 [.string (binAt L z).code] rfl (Rd.of_block (cs := #[.string (binAt L z).code]) (heap_alloc_new _ _) rfl) (by intro x hx; simp at hx; subst hx; rfl) (by unfold maxLen; omega) (by omega) (by simp <;> omega) ?_; intro A9 c9 w9 ho9 hg9 hor9)
            have Hs9 := Lib.hid ((Hs6.out.below ((Below.refl _ _).alloc (Nat.le_refl _) (.cells #[.string (binAt L z).code] 9))).other hg9 (fun q hq => by have := (NO6.out q hq).1; omega))
            have Ho9 := Lib.hid ((Ho6.out.alloc _).kept hg9 (own_type_apart Ho6.out Hoc6.out (by decide)))
            have hb9 : Below w.heap.size w w9 := (hb6.alloc (by omega) (.cells #[.string (binAt L z).code] 9)).grown hg9 (by simp; omega) (fun q hq => by have := (NO6.out q hq).1; omega)
            have hz9 : w3.heap.size ≤ w9.heap.size := by have h1 := hg9.size; simp only [World.size_alloc] at h1; omega
            have Hoc9 := Lib.hid ho9
            clear ho9 hg9 hor9
            go_roundw
            case rel => exact ⟨cs ++ [(binAt L z).code], A9, c9, k - 1, by rw [List.length_append]; rfl, by go_num, by omega, by simp; omega, strsFit_app Hcf.out Hnm.out, by rw [List.length_append, strsRow_append]; exact Hoc9.out, Ho9.out, Hs9.out, hb9, hz9⟩
            case measure => simp [intOf]; omega
          · skip
            have h3m : min 3 (L.length : Int) = 3 := by omega
            have h3d : (3 : Int) ≤ (L.length : Int) := by omega
            go_wp2_with fail
            refine (next_any _ w.heap.size w.heap.size A n c 3 Hs5.out).mono ?_
            rintro e w6 ⟨z, rfl, hx, hs, hg⟩
            have hz : z < L.length := by omega
            have Hs6 := Lib.hid hs
            have Ho6 := Lib.hid (Ho5.out.kept hg (.inr Hone.out))
            have Hoc6 := Lib.hid (Hoc5.out.kept hg (.inr NC.out))
            have hb6 : Below w.heap.size w w6 := hb5.trans (below_gb hg (Nat.le_refl _) (by omega))
            have hgl6 := hs.lt
            have hsz6 := hg.size
            have NO6 := Lib.hid (show ∀ q, (Value.slice Ac cs.length cc).ownBlock = some q → w3.heap.size ≤ q ∧ q < w6.heap.size from fun q h => World.ownsRow.lt Hoc6.out q h)
            clear hs hg hx
            have Hnm := Lib.hid (Hf.out z hz)
            obtain ⟨gl, ol, rfl, hgl9, d0, d1, d2, d3, d4⟩ := (Rd.of_own Ho6.out).bin hz
            clear d1 d2 d3 d4
            have j0 : (0 : Int) ≤ (z : Int) := Int.natCast_nonneg _
            have j1 : (z : Int) < (L.length : Int) := by omega
            go_wp2_with (at_builtin; refine wpList_append_sl _ rfl (.tmp 27) (.tmp 37) _ rfl w3.heap.size 9 i0 _ 1 16 Try.underlying38 hi hz0 hz1 hz2 rfl (by omega) _ cs.length (strsRow cs) rfl (Hoc6.out.alloc _) (some ⟨w6.heap.size, 0, none⟩) 1 1 [.string (binAt L z).code] rfl (Rd.of_block (cs := #[.string (binAt L z).code]) (heap_alloc_new _ _) rfl) (by intro x hx; simp at hx; subst hx; rfl) (by unfold maxLen; omega) (by omega) (by simp <;> omega) ?_; intro A9 c9 w9 ho9 hg9 hor9)
            have Hs9 := Lib.hid ((Hs6.out.below ((Below.refl _ _).alloc (Nat.le_refl _) (.cells #[.string (binAt L z).code] 9))).other hg9 (fun q hq => by have := (NO6.out q hq).1; omega))
            have Ho9 := Lib.hid ((Ho6.out.alloc _).kept hg9 (own_type_apart Ho6.out Hoc6.out (by decide)))
            have hb9 : Below w.heap.size w w9 := (hb6.alloc (by omega) (.cells #[.string (binAt L z).code] 9)).grown hg9 (by simp; omega) (fun q hq => by have := (NO6.out q hq).1; omega)
            have hz9 : w3.heap.size ≤ w9.heap.size := by have h1 := hg9.size; simp only [World.size_alloc] at h1; omega
            have Hoc9 := Lib.hid ho9
            clear ho9 hg9 hor9
            go_roundw
            case rel => exact ⟨cs ++ [(binAt L z).code], A9, c9, k - 1, by rw [List.length_append]; rfl, by go_num, by omega, by simp; omega, strsFit_app Hcf.out Hnm.out, by rw [List.length_append, strsRow_append]; exact Hoc9.out, Ho9.out, Hs9.out, hb9, hz9⟩
            case measure => simp [intOf]; omega
        · skip
          go_wp2_with (at_builtin; refine wpList_append_sl _ rfl (.tmp 39) (.tmp 40) _ rfl w3.heap.size 9 i0 _ 1 16 Try.underlying38 hi hz0 hz1 hz2 rfl (by omega) _ cs.length (strsRow cs) rfl (Hoc5.out.alloc _) (some ⟨w5.heap.size, 0, none⟩) 1 1 [.string ⟨#[110, 111, 110, 101]⟩] rfl (Rd.of_block (cs := #[.string ⟨#[110, 111, 110, 101]⟩]) (heap_alloc_new _ _) rfl) (by intro x hx; simp at hx; subst hx; rfl) (by unfold maxLen; omega) (by omega) (by simp <;> omega) ?_; intro A9 c9 w9 ho9 hg9 hor9)
          have Hs9 := Lib.hid ((Hs5.out.below ((Below.refl _ _).alloc (Nat.le_refl _) (.cells #[.string ⟨#[110, 111, 110, 101]⟩] 9))).other hg9 (fun q hq => by have := (NO5.out q hq).1; omega))
          have Ho9 := Lib.hid ((Ho5.out.alloc _).kept hg9 (own_type_apart Ho5.out Hoc5.out (by decide)))
          have hb9 : Below w.heap.size w w9 := (hb5.alloc (by omega) (.cells #[.string ⟨#[110, 111, 110, 101]⟩] 9)).grown hg9 (by simp; omega) (fun q hq => by have := (NO5.out q hq).1; omega)
          have hz9 : w3.heap.size ≤ w9.heap.size := by have h1 := hg9.size; simp only [World.size_alloc] at h1; omega
          have Hoc9 := Lib.hid ho9
          clear ho9 hg9 hor9
          go_roundw
          case rel => exact ⟨cs ++ [⟨#[110, 111, 110, 101]⟩], A9, c9, k - 1, by rw [List.length_append]; rfl, by go_num, by omega, by simp; omega, strsFit_app Hcf.out (by simp [ByteArray.size, maxLen]), by rw [List.length_append, strsRow_append]; exact Hoc9.out, Ho9.out, Hs9.out, hb9, hz9⟩
          case measure => simp [intOf]; omega
      · have hli : ¬ (0 : Int) < (L.length : Int) := by omega
        go_wp2_with (at_builtin; refine wpList_append_sl _ rfl (.tmp 39) (.tmp 40) _ rfl w3.heap.size 9 i0 _ 1 16 Try.underlying38 hi hz0 hz1 hz2 rfl (by omega) _ cs.length (strsRow cs) rfl (Hoc.out.alloc _) (some ⟨wr.heap.size, 0, none⟩) 1 1 [.string ⟨#[110, 111, 110, 101]⟩] rfl (Rd.of_block (cs := #[.string ⟨#[110, 111, 110, 101]⟩]) (heap_alloc_new _ _) rfl) (by intro x hx; simp at hx; subst hx; rfl) (by unfold maxLen; omega) (by omega) (by simp <;> omega) ?_; intro A9 c9 w9 ho9 hg9 hor9)
        have Hs9 := Lib.hid ((Hs.out.below ((Below.refl _ _).alloc (Nat.le_refl _) (.cells #[.string ⟨#[110, 111, 110, 101]⟩] 9))).other hg9 (fun q hq => by have := (NO.out q hq).1; omega))
        have Ho9 := Lib.hid ((Ho.out.alloc _).kept hg9 (own_type_apart Ho.out Hoc.out (by decide)))
        have hb9 : Below w.heap.size w w9 := (hb.alloc (by omega) (.cells #[.string ⟨#[110, 111, 110, 101]⟩] 9)).grown hg9 (by simp; omega) (fun q hq => by have := (NO.out q hq).1; omega)
        have hz9 : w3.heap.size ≤ w9.heap.size := by have h1 := hg9.size; simp only [World.size_alloc] at h1; omega
        have Hoc9 := Lib.hid ho9
        clear ho9 hg9 hor9
        go_roundw
        case rel => exact ⟨cs ++ [⟨#[110, 111, 110, 101]⟩], A9, c9, k - 1, by rw [List.length_append]; rfl, by go_num, by omega, by simp; omega, strsFit_app Hcf.out (by simp [ByteArray.size, maxLen]), by rw [List.length_append, strsRow_append]; exact Hoc9.out, Ho9.out, Hs9.out, hb9, hz9⟩
        case measure => simp [intOf]; omega
    · have hk9 : k = 0 := by omega
      subst hk9
      clear hk0
      go_wp2_with fail
      refine (next_any _ w.heap.size w.heap.size A n c 30 Hs.out).mono ?_
      rintro e w7 ⟨y, rfl, hx, hs, hg⟩
      have Hs7 := Lib.hid hs
      have Ho7 := Lib.hid (Ho.out.kept hg (.inr Hone.out))
      have Hoc7 := Lib.hid (Hoc.out.kept hg (.inr NC.out))
      have hb7 : Below w.heap.size w w7 := hb.trans (below_gb hg (Nat.le_refl _) (by omega))
      have hgl7 := hs.lt
      have hsz7 := hg.size
      have NO7 := Lib.hid (show ∀ q, (Value.slice Ac cs.length cc).ownBlock = some q → w3.heap.size ≤ q ∧ q < w7.heap.size from fun q h => World.ownsRow.lt Hoc7.out q h)
      clear hs hg hx
      by_cases hy0 : y = 0
      · subst hy0
        go_wp2_with fail
        refine (next_any _ w.heap.size w.heap.size A n c 2 Hs7.out).mono ?_
        rintro e w8 ⟨z, rfl, hx, hs, hg⟩
        have hzz : z < 2 := by omega
        have Hs8 := Lib.hid hs
        have Ho8 := Lib.hid (Ho7.out.kept hg (.inr Hone.out))
        have Hoc8 := Lib.hid (Hoc7.out.kept hg (.inr NC.out))
        have hb8 : Below w.heap.size w w8 := hb7.trans (below_gb hg (Nat.le_refl _) (by omega))
        have hgl8 := hs.lt
        have hsz8 := hg.size
        have NO8 := Lib.hid (show ∀ q, (Value.slice Ac cs.length cc).ownBlock = some q → w3.heap.size ≤ q ∧ q < w8.heap.size from fun q h => World.ownsRow.lt Hoc8.out q h)
        clear hs hg hx
        have xx := IntWalk.i64_in (60 + (z : Int)) (by omega)
        obtain ⟨Z, hZ⟩ : ∃ Z : Nat, Z = 60 + z := ⟨_, rfl⟩
        have hZ2 : Z ≤ 61 := by omega
        have xn : (60 + (z : Int)) = (Z : Int) := by omega
        clear hZ
        go_wp2_with (at_make; refine wpList_make_full _ rfl _ _ 38 rfl w8.heap.size 9 i0 _ 1 Try.underlying38 hi hz0 hz1 _ _ _ _ Z rfl rfl rfl rfl (by rw [hz2]; omega) (by unfold maxLen; omega) (Nat.le_refl _) ?_; intro wm hown hgr)
        go_ret2
        refine ⟨L, _, List.replicate Z ⟨#[]⟩, _, rfl, own_base (Ho8.out.kept hgr (Classical.em _)) hsz2, Hf.out, hL, ?_, strsFit_same _, by simp; omega, hb8.grown hgr (by omega) (fun _ h => by cases h)⟩
        have hB0 : (madeCells (Value.string ⟨#[]⟩).cells (Z * 1)).toList = strsRow (List.replicate Z ⟨#[]⟩) := by
          rw [Nat.mul_one]
          show (madeCells #[Value.string ⟨#[]⟩] Z).toList = _
          rw [toList_madeCells_one]; simp [strsRow]
        rw [← hB0, List.length_replicate]
        exact own_base hown (by omega)
      · have hyf : ((y : Int) == 0) = false := by simp; omega
        go_wp2
        go_ret2
        exact ⟨L, _, cs, _, rfl, own_base Ho7.out hsz2, Hf.out, hL, own_base Hoc7.out (by omega), Hcf.out, by omega, hb7⟩

theorem binRow_amount {L : List Bin} (h : 0 < L.length) (a : Int) : (binRow L).set 1 (.int .i64 a) = binRow (binSet L 0 a (binAt L 0).reserved) := by
  have := binRow_set1 a L 0 h
  simpa using this
set_option maxHeartbeats 4000000 in
theorem drawMerge_any (w : World) (A : Option Addr) (n c : Nat) (hcode : Code w A n) (hn : n ≤ 4096) (hc : n ≤ c ∧ c ≤ maxLen) :
    Calls Try.prog 48 #[.slice A n c] w fun e w' => ∃ (L M : List Bin) (v u : Value), e = .returned (.tuple #[v, u]) ∧ w'.ownsRow w.heap.size 58 5 v L.length (binRow L) ∧ binFit L ∧ L.length ≤ 21 ∧ w'.ownsRow w.heap.size 58 5 u M.length (binRow M) ∧ binFit M ∧ M.length ≤ 21 ∧ Below w.heap.size w w' := by
  go_enter Try.func48, Try.ntmps48
  go_wp2_with fail
  refine (from_any w A n c hcode hn hc).mono ?_
  rintro e w2 ⟨rfl, hs2, hb2⟩
  have Hs2 := Lib.hid hs2
  have hsz2 := hb2.size
  have hgl2 := hs2.lt
  clear hs2
  go_wp2_with fail
  refine (draw_any w2 w.heap.size w.heap.size A n c Hs2.out).mono ?_
  rintro e w3 ⟨L, v, rfl, ho3, hf, hL, hs3, hg3⟩
  obtain ⟨Ao, co, rfl, hoc, hoc2⟩ := own_slice ho3
  have Hs3 := Lib.hid hs3
  have Hone := Lib.hid (show (Value.slice Ao L.length co).ownBlock ≠ some w.heap.size from fun h => by have := (World.ownsRow.lt ho3 _ h).1; omega)
  have LO := Lib.hid (show ∀ q, (Value.slice Ao L.length co).ownBlock = some q → w2.heap.size ≤ q ∧ q < w3.heap.size from fun q h => World.ownsRow.lt ho3 q h)
  have Ho3 := Lib.hid ho3
  have Hf := Lib.hid hf
  have hgl3 : w.heap.size < w3.heap.size := hs3.lt
  have b3 : Below w.heap.size w w3 := hb2.trans (below_gb hg3 (Nat.le_refl _) (by omega))
  clear hs3 hg3 ho3 hf
  go_wp2_with fail
  refine (draw_any w3 w.heap.size w.heap.size A n c Hs3.out).mono ?_
  rintro e w4 ⟨M, u, rfl, ho4, hfm, hM, hs4, hg4⟩
  obtain ⟨Am, cm, rfl, hmc, hmc2⟩ := own_slice ho4
  have Hs4 := Lib.hid hs4
  have Honm := Lib.hid (show (Value.slice Am M.length cm).ownBlock ≠ some w.heap.size from fun h => by have := (World.ownsRow.lt ho4 _ h).1; omega)
  have LM := Lib.hid (show ∀ q, (Value.slice Am M.length cm).ownBlock = some q → w3.heap.size ≤ q from fun q h => (World.ownsRow.lt ho4 q h).1)
  have Hm4 := Lib.hid ho4
  have Hfm := Lib.hid hfm
  have Ho4 := Lib.hid (Ho3.out.kept hg4 (.inr Hone.out))
  have hgl4 : w.heap.size < w4.heap.size := hs4.lt
  have b4 : Below w.heap.size w w4 := b3.trans (below_gb hg4 (Nat.le_refl _) (by omega))
  have hsz3 := b3.size
  clear hs4 hg4 ho4 hfm
  by_cases hL0 : 0 < L.length
  · have hli : (0 : Int) < (L.length : Int) := by omega
    go_wp2_with fail
    refine (next_any w4 w.heap.size w.heap.size A n c 12 Hs4.out).mono ?_
    rintro e w5 ⟨y, rfl, hx, hs, hg⟩
    have Ho5 := Lib.hid (Ho4.out.kept hg (.inr Hone.out))
    have Hm5 := Lib.hid (Hm4.out.kept hg (.inr Honm.out))
    have b5 : Below w.heap.size w w5 := b4.trans (below_gb hg (Nat.le_refl _) (by omega))
    clear hs hg hx
    by_cases hy : y = 0
    · subst hy
      obtain ⟨go, cg, hv, hgo1, hgo2⟩ := own_form Ho5.out hL0
      injection hv with hv1 hv2 hv3
      subst hv1
      subst hv3
      obtain ⟨hx1, hx2⟩ := own_cell Ho5.out (j := 1) (by omega)
      have hfr := Ho5.out.frozenAt 1
      have hst := Lib.hid (Ho5.out.stored 1 (.int .i64 99997)).1
      have hfar := Lib.hid (own_far Hm5.out (p := ⟨go, 1, none⟩) (fun h => by have h1 := LM.out go h; have h2 := (LO.out go rfl).2; omega) (.int .i64 99997))
      have hbs := b5.setCell (p := ⟨go, 1, none⟩) (by show w.heap.size ≤ go; have := (LO.out go rfl).1; omega) (.int .i64 99997)
      have Hfs := Lib.hid (binFit_set Hf.out hL0 99997 (binAt L 0).reserved)
      have Hrow := Lib.hid (binRow_amount hL0 99997)
      have Hlen := Lib.hid (binSet_len L 0 99997 (binAt L 0).reserved)
      go_wp2
      go_ret2
      exact ⟨binSet L 0 99997 (binAt L 0).reserved, M, _, _, rfl, by rw [Hlen.out, ← Hrow.out]; exact own_base hst.out hsz2, Hfs.out, by rw [Hlen.out]; exact hL, own_base hfar.out (by omega), Hfm.out, hM, hbs⟩
    · have hyf : ((y : Int) == 0) = false := by simp; omega
      go_wp2
      go_ret2
      exact ⟨L, M, _, _, rfl, own_base Ho5.out hsz2, Hf.out, hL, own_base Hm5.out (by omega), Hfm.out, hM, b5⟩
  · have hli : ¬ (0 : Int) < (L.length : Int) := by omega
    go_wp2
    go_ret2
    exact ⟨L, M, _, _, rfl, own_base Ho4.out hsz2, Hf.out, hL, own_base Hm4.out (by omega), Hfm.out, hM, b4⟩

end Go.Proofs.Ytngphnfbfednnaa
