/- The draws of chapter 23: DrawEarliestDay, DrawFreeUntil, DrawMakePromise, DrawMovePromise, DrawKeptNames. Printed by gen_drawq.py. -/
import Derived.Test.YtgafjchbfbpmmaaDrawP
import Derived.Test.YtgafjchbfbpmmaaCode
import Derived.OwnWalk
namespace Go.Proofs.Ytgafjchbfbpmmaa
open Go.RowKit

set_option maxHeartbeats 4000000 in
theorem drawDay_any (w : World) (A : Option Addr) (n c : Nat) (hcode : Code w A n) (hn : n ≤ 4096) (hc : n ≤ c ∧ c ≤ maxLen) :
    Calls Try.prog 44 #[.slice A n c] w fun e w' => ∃ (L : List Promise) (v : Value) (m : Int), e = .returned (.tuple #[v, .int .i64 m]) ∧ w'.ownsRow w.heap.size 43 3 v L.length (promiseRow L) ∧ promiseFit L ∧ L.length ≤ 41 ∧ Below w.heap.size w w' := by
  go_enter Try.func44, Try.ntmps44
  go_wp2_with fail
  refine (from_any w A n c hcode hn hc).mono ?_
  rintro e w2 ⟨rfl, hs2, hb2⟩
  have Hs2 := Lib.hid hs2
  have hsz2 := hb2.size
  have hgl2 := hs2.lt
  clear hs2
  go_wp2_with fail
  refine (draw_any w2 w.heap.size w.heap.size A n c Hs2.out).mono ?_
  rintro e w3 ⟨L, v, rfl, ho3, hf, hL, hs3, hg3⟩
  obtain ⟨Ao, co, rfl, hoc, hoc2⟩ := own_slice ho3
  have Hs3 := Lib.hid hs3
  have hone : (Value.slice Ao L.length co).ownBlock ≠ some w.heap.size := fun h => by have := (World.ownsRow.lt ho3 _ h).1; omega
  have Hone := Lib.hid hone
  have Ho3 := Lib.hid ho3
  have Hf := Lib.hid hf
  have hgl3 : w.heap.size < w3.heap.size := hs3.lt
  have b3 : Below w.heap.size w w3 := hb2.trans (below_gb hg3 (Nat.le_refl _) (by omega))
  clear hs3 hg3 ho3 hone hf
  go_wp2_with fail
  refine (next_any _ w.heap.size w.heap.size A n c 60 Hs3.out).mono ?_
  rintro e w4 ⟨x, rfl, hx, hs, hg⟩
  have hx : x < 60 := by omega
  clear hx
  have Ho4 := Lib.hid (Ho3.out.kept hg (.inr Hone.out))
  have Hs4 := Lib.hid hs
  have b4 : Below w.heap.size w w4 := b3.trans (below_gb hg (Nat.le_refl _) (by first | omega | (simp; omega)))
  have hgl4 : w.heap.size < w4.heap.size := hs.lt
  clear hg hs
  have x1 := IntWalk.i64_in (1 + (x : Int)) (by omega)
  have x2 := IntWalk.i64_in (10 * (1 + (x : Int))) (by omega)
  go_wp2_with fail
  refine (pick_any _ w.heap.size w.heap.size A n c [10 * (1 + (x : Int)), 1, 2000, 2001, 0, 420] _ (Hs4.out.below ((Below.refl _ _).alloc (Nat.le_refl _) (.cells #[.int .i64 (10 * (1 + (x : Int))), .int .i64 1, .int .i64 2000, .int .i64 2001, .int .i64 0, .int .i64 420] 2))) (by exact sl_laid w4 [10 * (1 + (x : Int)), 1, 2000, 2001, 0, 420] (by simp [maxLen])) (by simp) (by simp) (fun h => by have : w4.heap.size = w.heap.size := (by simpa [Value.ownBlock] using h); omega)).mono ?_
  rintro e w5 ⟨m, hmm, rfl, hs, hg⟩
  clear hmm
  have Ho5 := Lib.hid ((Ho4.out.alloc _).kept hg (.inr Hone.out))
  have Hs5 := Lib.hid hs
  have b5 : Below w.heap.size w w5 := (b4.alloc (by have := b4.size; first | omega | (simp; omega)) (.cells #[.int .i64 (10 * (1 + (x : Int))), .int .i64 1, .int .i64 2000, .int .i64 2001, .int .i64 0, .int .i64 420] 2)).trans (below_gb hg (Nat.le_refl _) (by first | omega | (simp; omega)))
  have hgl5 : w.heap.size < w5.heap.size := hs.lt
  clear hg hs
  go_wp2
  go_ret2
  exact ⟨L, _, m, rfl, own_base Ho5.out hsz2, Hf.out, hL, b5⟩

set_option maxHeartbeats 4000000 in
theorem drawFree_any (w : World) (A : Option Addr) (n c : Nat) (hcode : Code w A n) (hn : n ≤ 4096) (hc : n ≤ c ∧ c ≤ maxLen) :
    Calls Try.prog 45 #[.slice A n c] w fun e w' => ∃ (L : List Promise) (v : Value) (m : Int), e = .returned (.tuple #[v, .int .i64 m]) ∧ w'.ownsRow w.heap.size 43 3 v L.length (promiseRow L) ∧ promiseFit L ∧ L.length ≤ 41 ∧ Below w.heap.size w w' := by
  go_enter Try.func45, Try.ntmps45
  go_wp2_with fail
  refine (from_any w A n c hcode hn hc).mono ?_
  rintro e w2 ⟨rfl, hs2, hb2⟩
  have Hs2 := Lib.hid hs2
  have hsz2 := hb2.size
  have hgl2 := hs2.lt
  clear hs2
  go_wp2_with fail
  refine (draw_any w2 w.heap.size w.heap.size A n c Hs2.out).mono ?_
  rintro e w3 ⟨L, v, rfl, ho3, hf, hL, hs3, hg3⟩
  obtain ⟨Ao, co, rfl, hoc, hoc2⟩ := own_slice ho3
  have Hs3 := Lib.hid hs3
  have hone : (Value.slice Ao L.length co).ownBlock ≠ some w.heap.size := fun h => by have := (World.ownsRow.lt ho3 _ h).1; omega
  have Hone := Lib.hid hone
  have Ho3 := Lib.hid ho3
  have Hf := Lib.hid hf
  have hgl3 : w.heap.size < w3.heap.size := hs3.lt
  have b3 : Below w.heap.size w w3 := hb2.trans (below_gb hg3 (Nat.le_refl _) (by omega))
  clear hs3 hg3 ho3 hone hf
  go_wp2_with fail
  refine (next_any _ w.heap.size w.heap.size A n c 6 Hs3.out).mono ?_
  rintro e w4 ⟨x, rfl, hx, hs, hg⟩
  have hx : x < 6 := by omega
  clear hx
  have Ho4 := Lib.hid (Ho3.out.kept hg (.inr Hone.out))
  have Hs4 := Lib.hid hs
  have b4 : Below w.heap.size w w4 := b3.trans (below_gb hg (Nat.le_refl _) (by first | omega | (simp; omega)))
  have hgl4 : w.heap.size < w4.heap.size := hs.lt
  clear hg hs
  have x1 := IntWalk.i64_in (1 + (x : Int)) (by omega)
  go_wp2_with fail
  refine (next_any _ w.heap.size w.heap.size A n c 6 Hs4.out).mono ?_
  rintro e w5 ⟨y, rfl, hx, hs, hg⟩
  have hy : y < 6 := by omega
  clear hx
  have Ho5 := Lib.hid (Ho4.out.kept hg (.inr Hone.out))
  have Hs5 := Lib.hid hs
  have b5 : Below w.heap.size w w5 := b4.trans (below_gb hg (Nat.le_refl _) (by first | omega | (simp; omega)))
  have hgl5 : w.heap.size < w5.heap.size := hs.lt
  clear hg hs
  have y1 := IntWalk.i64_in (1 + (y : Int)) (by omega)
  go_wp2_with fail
  refine (pick_any _ w.heap.size w.heap.size A n c [1 + (x : Int), 1, 1000, 1001, 0, 1 + (y : Int)] _ (Hs5.out.below ((Below.refl _ _).alloc (Nat.le_refl _) (.cells #[.int .i64 (1 + (x : Int)), .int .i64 1, .int .i64 1000, .int .i64 1001, .int .i64 0, .int .i64 (1 + (y : Int))] 2))) (by exact sl_laid w5 [1 + (x : Int), 1, 1000, 1001, 0, 1 + (y : Int)] (by simp [maxLen])) (by simp) (by simp) (fun h => by have : w5.heap.size = w.heap.size := (by simpa [Value.ownBlock] using h); omega)).mono ?_
  rintro e w6 ⟨m, hmm, rfl, hs, hg⟩
  clear hmm
  have Ho6 := Lib.hid ((Ho5.out.alloc _).kept hg (.inr Hone.out))
  have Hs6 := Lib.hid hs
  have b6 : Below w.heap.size w w6 := (b5.alloc (by have := b5.size; first | omega | (simp; omega)) (.cells #[.int .i64 (1 + (x : Int)), .int .i64 1, .int .i64 1000, .int .i64 1001, .int .i64 0, .int .i64 (1 + (y : Int))] 2)).trans (below_gb hg (Nat.le_refl _) (by first | omega | (simp; omega)))
  have hgl6 : w.heap.size < w6.heap.size := hs.lt
  clear hg hs
  go_wp2
  go_ret2
  exact ⟨L, _, m, rfl, own_base Ho6.out hsz2, Hf.out, hL, b6⟩

set_option maxHeartbeats 4000000 in
theorem drawMake_any (w : World) (A : Option Addr) (n c : Nat) (hcode : Code w A n) (hn : n ≤ 4096) (hc : n ≤ c ∧ c ≤ maxLen) :
    Calls Try.prog 46 #[.slice A n c] w fun e w' => ∃ (L : List Promise) (v : Value) (p : Promise), e = .returned (.tuple #[v, .agg #[.string p.name, .int .i64 p.day, .int .i64 p.min]]) ∧ w'.ownsRow w.heap.size 43 3 v L.length (promiseRow L) ∧ promiseFit L ∧ L.length ≤ 41 ∧ p.name.size ≤ maxLen ∧ Below w.heap.size w w' := by
  go_enter Try.func46, Try.ntmps46
  have HR0 := Lib.hid (Blk.new w 43 #[.string ⟨#[]⟩, .int .i64 0, .int .i64 0])
  have hA : Below w.heap.size w (w.alloc (.cells #[.string ⟨#[]⟩, .int .i64 0, .int .i64 0] 43)) := (Below.refl _ _).alloc (Nat.le_refl _) _
  have hAs := hA.size
  go_wp2_with fail
  refine (from_any _ A n c (code_below hcode hA) hn hc).mono ?_
  rintro e w2 ⟨rfl, hs2, hb2⟩
  have HR2 := Lib.hid (HR0.out.below hb2 HR0.out.lt)
  have Hs2 := Lib.hid hs2
  have b2 := hA.trans (hb2.mono hAs)
  have hsz2 := b2.size
  have hgl2 := hs2.lt
  simp only [World.size_alloc] at hs2 Hs2 hgl2
  clear hs2
  go_wp2_with fail
  refine (draw_any w2 _ _ A n c Hs2.out).mono ?_
  rintro e w3 ⟨L, v, rfl, ho3, hf, hL, hs3, hg3⟩
  obtain ⟨Ao, co, rfl, hoc, hoc2⟩ := own_slice ho3
  have HR3 := Lib.hid (HR2.out.grown hg3 (fun e => by injection e; omega))
  have Hs3 := Lib.hid hs3
  have hone : (Value.slice Ao L.length co).ownBlock ≠ some (w.heap.size + 1) := fun h => by have := (World.ownsRow.lt ho3 _ h).1; omega
  have Hone := Lib.hid hone
  have Ho3 := Lib.hid ho3
  have Hf := Lib.hid hf
  have hgl3 : w.heap.size + 1 < w3.heap.size := hs3.lt
  have b3 : Below w.heap.size w w3 := b2.trans (below_gb hg3 (by omega) (by omega))
  clear hs3 hg3 ho3 hone hf
  have KT := Lib.hid (Blk.new w3 9 #[.string ⟨#[97, 100, 97]⟩, .string ⟨#[107, 105, 109]⟩, .string ⟨#[108, 101, 111]⟩, .string ⟨#[77, 105, 97]⟩, .string ⟨#[110, 101, 100]⟩])
  go_wp2_with fail
  refine (next_any _ _ _ A n c 5 (Hs3.out.below ((Below.refl _ _).alloc (Nat.le_refl _) (.cells #[.string ⟨#[97, 100, 97]⟩, .string ⟨#[107, 105, 109]⟩, .string ⟨#[108, 101, 111]⟩, .string ⟨#[77, 105, 97]⟩, .string ⟨#[110, 101, 100]⟩] 9)))).mono ?_
  rintro e w4 ⟨y, rfl, hy0, hs, hg⟩
  have hy : y < 5 := by omega
  clear hy0
  have KT4 := Lib.hid (KT.out.grown hg (fun e => by injection e; omega))
  have HR4 := Lib.hid ((HR3.out.alloc _).grown hg (fun e => by injection e; omega))
  have Ho4 := Lib.hid ((Ho3.out.alloc _).kept hg (.inr Hone.out))
  have Hs4 := Lib.hid hs
  have b4 : Below w.heap.size w w4 := (b3.alloc (by omega) (.cells #[.string ⟨#[97, 100, 97]⟩, .string ⟨#[107, 105, 109]⟩, .string ⟨#[108, 101, 111]⟩, .string ⟨#[77, 105, 97]⟩, .string ⟨#[110, 101, 100]⟩] 9)).trans (below_gb hg (by omega) (by simp; omega))
  have hgl4 : w.heap.size + 1 < w4.heap.size := hs.lt
  clear hs hg
  obtain ⟨nm, hnm, cT⟩ : ∃ nm : ByteArray, nm.size ≤ maxLen ∧ w4.cell? ⟨w3.heap.size, y, none⟩ = some (.string nm) := by
    rw [KT4.out.cell y]
    match y, hy with
    | 0, _ => exact ⟨_, by simp [ByteArray.size, maxLen], rfl⟩
    | 1, _ => exact ⟨_, by simp [ByteArray.size, maxLen], rfl⟩
    | 2, _ => exact ⟨_, by simp [ByteArray.size, maxLen], rfl⟩
    | 3, _ => exact ⟨_, by simp [ByteArray.size, maxLen], rfl⟩
    | 4, _ => exact ⟨_, by simp [ByteArray.size, maxLen], rfl⟩
  have j0 : (0 : Int) ≤ (y : Int) := Int.natCast_nonneg _
  have j1 : (y : Int) < 5 := by omega
  go_wp2_with fail
  refine (good_any _ _ _ A n c _ Hs4.out).mono ?_
  rintro e w5 ⟨p, rfl, hpn, hs, hg⟩
  have HP := Lib.hid hpn
  clear hpn
  have HR5 := Lib.hid (HR4.out.grown hg (fun e => by injection e; omega))
  have Ho5 := Lib.hid (Ho4.out.kept hg (.inr Hone.out))
  have b5 : Below w.heap.size w w5 := b4.trans (below_gb hg (by omega) (by omega))
  have hgl5 : w.heap.size + 1 < w5.heap.size := hs.lt
  clear hs hg cT
  have e0 := HR5.out.cell 0
  have e1 := HR5.out.cell 1
  have e2 := HR5.out.cell 2
  have f0 := HR5.out.frozen 0
  have f1 := HR5.out.frozen 1
  have f2 := HR5.out.frozen 2
  simp only [List.getElem?_toArray, List.getElem?_cons_zero, List.getElem?_cons_succ] at e0 e1 e2
  have Hon := Lib.hid (show (Value.slice Ao L.length co).ownBlock ≠ some w.heap.size from fun h => by have := (World.ownsRow.lt Ho3.out _ h).1; omega)
  go_wp2
  refine bodyPost_ret (v := .tuple #[.slice Ao L.length co, .agg #[.string p.name, .int .i64 p.day, .int .i64 p.min]]) (by simp [results, Try.results46, go_sem, e0, e1, e2]) rfl ⟨L, _, p, rfl, ?_, Hf.out, hL, by rw [HP.out]; exact hnm, ((b5.setCell (Nat.le_refl _) _).setCell (Nat.le_refl _) _).setCell (Nat.le_refl _) _⟩
  exact own_base (own_far (own_far (own_far Ho5.out Hon.out _) Hon.out _) Hon.out _) hsz2

set_option maxHeartbeats 4000000 in
theorem drawMove_any (w : World) (A : Option Addr) (n c : Nat) (hcode : Code w A n) (hn : n ≤ 4096) (hc : n ≤ c ∧ c ≤ maxLen) :
    Calls Try.prog 47 #[.slice A n c] w fun e w' => ∃ (L : List Promise) (v : Value) (s : ByteArray) (m : Int), e = .returned (.tuple #[v, .string s, .int .i64 m]) ∧ w'.ownsRow w.heap.size 43 3 v L.length (promiseRow L) ∧ promiseFit L ∧ L.length ≤ 41 ∧ s.size ≤ maxLen ∧ Below w.heap.size w w' := by
  go_enter Try.func47, Try.ntmps47
  go_wp2_with fail
  refine (from_any w A n c hcode hn hc).mono ?_
  rintro e w2 ⟨rfl, hs2, hb2⟩
  have Hs2 := Lib.hid hs2
  have hsz2 := hb2.size
  have hgl2 := hs2.lt
  clear hs2
  go_wp2_with fail
  refine (draw_any w2 w.heap.size w.heap.size A n c Hs2.out).mono ?_
  rintro e w3 ⟨L, v, rfl, ho3, hf, hL, hs3, hg3⟩
  obtain ⟨Ao, co, rfl, hoc, hoc2⟩ := own_slice ho3
  have Hs3 := Lib.hid hs3
  have hone : (Value.slice Ao L.length co).ownBlock ≠ some w.heap.size := fun h => by have := (World.ownsRow.lt ho3 _ h).1; omega
  have Hone := Lib.hid hone
  have Ho3 := Lib.hid ho3
  have Hf := Lib.hid hf
  have hgl3 : w.heap.size < w3.heap.size := hs3.lt
  have b3 : Below w.heap.size w w3 := hb2.trans (below_gb hg3 (Nat.le_refl _) (by omega))
  clear hs3 hg3 ho3 hone hf
  go_wp2_with fail
  refine (next_any _ w.heap.size w.heap.size A n c 8 Hs3.out).mono ?_
  rintro e w4 ⟨x, rfl, hx, hs, hg⟩
  have hx : x < 8 := by omega
  clear hx
  have Ho4 := Lib.hid (Ho3.out.kept hg (.inr Hone.out))
  have Hs4 := Lib.hid hs
  have b4 : Below w.heap.size w w4 := b3.trans (below_gb hg (Nat.le_refl _) (by first | omega | (simp; omega)))
  have hgl4 : w.heap.size < w4.heap.size := hs.lt
  clear hg hs
  have x1 := IntWalk.i64_in (1 + (x : Int)) (by omega)
  go_wp2_with fail
  refine (pick_any _ w.heap.size w.heap.size A n c [1 + (x : Int), 1, 1000, 1001, 0] _ (Hs4.out.below ((Below.refl _ _).alloc (Nat.le_refl _) (.cells #[.int .i64 (1 + (x : Int)), .int .i64 1, .int .i64 1000, .int .i64 1001, .int .i64 0] 2))) (by exact sl_laid w4 [1 + (x : Int), 1, 1000, 1001, 0] (by simp [maxLen])) (by simp) (by simp) (fun h => by have : w4.heap.size = w.heap.size := (by simpa [Value.ownBlock] using h); omega)).mono ?_
  rintro e w5 ⟨m, hmm, rfl, hs, hg⟩
  clear hmm
  have Ho5 := Lib.hid ((Ho4.out.alloc _).kept hg (.inr Hone.out))
  have Hs5 := Lib.hid hs
  have b5 : Below w.heap.size w w5 := (b4.alloc (by have := b4.size; first | omega | (simp; omega)) (.cells #[.int .i64 (1 + (x : Int)), .int .i64 1, .int .i64 1000, .int .i64 1001, .int .i64 0] 2)).trans (below_gb hg (Nat.le_refl _) (by first | omega | (simp; omega)))
  have hgl5 : w.heap.size < w5.heap.size := hs.lt
  clear hg hs
  by_cases hlt : 0 < L.length
  · skip
    have hli : (0 : Int) < (L.length : Int) := by omega
    go_wp2_with fail
    refine (next_any _ w.heap.size w.heap.size A n c 6 Hs5.out).mono ?_
    rintro e w6 ⟨y, rfl, hx, hs, hg⟩
    have hy : y < 6 := by omega
    clear hx
    have Ho6 := Lib.hid (Ho5.out.kept hg (.inr Hone.out))
    have Hs6 := Lib.hid hs
    have b6 : Below w.heap.size w w6 := b5.trans (below_gb hg (Nat.le_refl _) (by first | omega | (simp; omega)))
    have hgl6 : w.heap.size < w6.heap.size := hs.lt
    clear hg hs
    by_cases hy0 : 0 < y
    · skip
      go_wp2_with fail
      refine wp_region_held_drew (S := (fun _ => True)) (by kernel_rfl) ?_ (fun hHeld => ?_)
      · (try dsimp only); first | done | trivial
      refine wpAnyH_take (i := 0) (v := ?_) rfl (by kernel_rfl) (by kernel_rfl) (by kernel_rfl) (fun _ _ _ h => h) (Or.inl ⟨by rfl, ?_⟩) (by assumption) ?_
      rotate_left
      · (intro w hSw; (try dsimp only at hSw); go_simp) <;> with_reducible rfl
      try simp only [Act.put, List.setIfInBounds_toArray, List.set_cons_zero, List.set_cons_succ, List.getElem_toArray, List.getElem_cons_succ, List.getElem_cons_zero]
      refine wpAnyH_take (i := 1) (v := ?_) rfl (by kernel_rfl) (by kernel_rfl) (by kernel_rfl) (fun _ _ _ h => h) (Or.inl ⟨by rfl, ?_⟩) (by assumption) ?_
      rotate_left
      · (intro w hSw; (try dsimp only at hSw); go_simp) <;> with_reducible rfl
      try simp only [Act.put, List.setIfInBounds_toArray, List.set_cons_zero, List.set_cons_succ, List.getElem_toArray, List.getElem_cons_succ, List.getElem_cons_zero]
      refine wpAnyH_take (i := 2) (v := ?_) rfl (by kernel_rfl) (by kernel_rfl) (by kernel_rfl) (fun _ _ _ h => h) (Or.inl ⟨by rfl, ?_⟩) (by assumption) ?_
      rotate_left
      · (intro w hSw; (try dsimp only at hSw); go_simp) <;> with_reducible rfl
      try simp only [Act.put, List.setIfInBounds_toArray, List.set_cons_zero, List.set_cons_succ, List.getElem_toArray, List.getElem_cons_succ, List.getElem_cons_zero]
      refine wpAnyH_take (i := 3) (v := ?_) rfl (by kernel_rfl) (by kernel_rfl) (by kernel_rfl) (fun _ _ _ h => h) (Or.inl ⟨by rfl, ?_⟩) (by assumption) ?_
      rotate_left
      · (intro w hSw; (try dsimp only at hSw); go_simp) <;> with_reducible rfl
      try simp only [Act.put, List.setIfInBounds_toArray, List.set_cons_zero, List.set_cons_succ, List.getElem_toArray, List.getElem_cons_succ, List.getElem_cons_zero]
      refine wpAnyH_take (i := 4) (v := ?_) rfl (by kernel_rfl) (by kernel_rfl) (by kernel_rfl) (fun _ _ _ h => h) (Or.inl ⟨by rfl, ?_⟩) (by assumption) ?_
      rotate_left
      · (intro w hSw; (try dsimp only at hSw); go_simp) <;> with_reducible rfl
      try simp only [Act.put, List.setIfInBounds_toArray, List.set_cons_zero, List.set_cons_succ, List.getElem_toArray, List.getElem_cons_succ, List.getElem_cons_zero]
      refine wpAnyH_take (i := 9) (v := ?_) rfl (by kernel_rfl) (by kernel_rfl) (by kernel_rfl) (fun _ _ _ h => h) (Or.inl ⟨by rfl, ?_⟩) (by assumption) ?_
      rotate_left
      · (intro w hSw; (try dsimp only at hSw); go_simp) <;> with_reducible rfl
      try simp only [Act.put, List.setIfInBounds_toArray, List.set_cons_zero, List.set_cons_succ, List.getElem_toArray, List.getElem_cons_succ, List.getElem_cons_zero]
      refine wpAnyH_ready (rs := [5]) (by kernel_rfl) (by simp) ?_
      refine AllReadyH.cons rfl (fun K hK => ?_) AllReadyH.nil
      try dsimp only [List.getElem_toArray, List.getElem_cons_succ, List.getElem_cons_zero]
      go_simp
      refine (next_any _ _ _ A n c (L.length : Int) (draw_src Hs6.out _)).mono ?_
      rintro e w9 ⟨z, rfl, hz0, hs, hg⟩
      have hz : z < L.length := by omega
      have Ho9 := Lib.hid ((draw_own Ho6.out _).kept hg (.inr Hone.out))
      have b9 : Below w.heap.size w w9 := (below_drewN b6 _).trans (below_gb hg (Nat.le_refl _) (by first | omega | (simp; omega)))
      obtain ⟨gl, ol, rfl, hgl9, d0, d1, d2⟩ := (Rd.of_own Ho9.out).promise hz
      have j0 : (0 : Int) ≤ (z : Int) := Int.natCast_nonneg _
      have j1 : (z : Int) < (L.length : Int) := by omega
      have Hnm := Lib.hid (Hf.out z hz)
      clear hs hg hz0
      go_wp2_with fail
      refine hK.out _ _ ?_ (fun hHeld => ?_)
      · (try dsimp only); first | done | trivial
      clear hK K
      try simp only [Act.put, List.setIfInBounds_toArray, List.set_cons_zero, List.set_cons_succ, List.getElem_toArray, List.getElem_cons_succ, List.getElem_cons_zero]
      refine wpAnyH_take (i := 10) (v := ?_) rfl (by kernel_rfl) (by kernel_rfl) (by kernel_rfl) (fun _ _ _ h => h) (Or.inl ⟨by rfl, ?_⟩) (by assumption) ?_
      rotate_left
      · (intro w hSw; (try dsimp only at hSw); go_simp) <;> with_reducible rfl
      try simp only [Act.put, List.setIfInBounds_toArray, List.set_cons_zero, List.set_cons_succ, List.getElem_toArray, List.getElem_cons_succ, List.getElem_cons_zero]
      refine wpAnyH_take (i := 6) (v := ?_) rfl (by kernel_rfl) (by kernel_rfl) (by kernel_rfl) (fun _ _ _ h => h) (Or.inl ⟨by rfl, ?_⟩) (by assumption) ?_
      rotate_left
      · (intro w hSw; (try dsimp only at hSw); go_simp) <;> with_reducible rfl
      try simp only [Act.put, List.setIfInBounds_toArray, List.set_cons_zero, List.set_cons_succ, List.getElem_toArray, List.getElem_cons_succ, List.getElem_cons_zero]
      refine wpAnyH_take (i := 7) (v := ?_) rfl (by kernel_rfl) (by kernel_rfl) (by kernel_rfl) (fun _ _ _ h => h) (Or.inl ⟨by rfl, ?_⟩) (by assumption) ?_
      rotate_left
      · (intro w hSw; (try dsimp only at hSw); go_simp) <;> with_reducible rfl
      try simp only [Act.put, List.setIfInBounds_toArray, List.set_cons_zero, List.set_cons_succ, List.getElem_toArray, List.getElem_cons_succ, List.getElem_cons_zero]
      refine wpAnyH_ready (rs := [8]) (by kernel_rfl) (by simp) ?_
      refine AllReadyH.cons rfl (fun K hK => ?_) AllReadyH.nil
      try dsimp only [List.getElem_toArray, List.getElem_cons_succ, List.getElem_cons_zero]
      go_simp
      refine hK.out _ _ ?_ (fun hHeld => ?_)
      · (try dsimp only); first | done | trivial
      clear hK K
      try simp only [Act.put, List.setIfInBounds_toArray, List.set_cons_zero, List.set_cons_succ, List.getElem_toArray, List.getElem_cons_succ, List.getElem_cons_zero]
      refine wpAnyH_take (i := 11) (v := ?_) rfl (by kernel_rfl) (by kernel_rfl) (by kernel_rfl) (fun _ _ _ h => h) (Or.inl ⟨by rfl, ?_⟩) (by assumption) ?_
      rotate_left
      · (intro w hSw; (try dsimp only at hSw); go_simp) <;> with_reducible rfl
      try simp only [Act.put, List.setIfInBounds_toArray, List.set_cons_zero, List.set_cons_succ, List.getElem_toArray, List.getElem_cons_succ, List.getElem_cons_zero]
      refine wpAnyH_take (i := 12) (v := ?_) rfl (by kernel_rfl) (by kernel_rfl) (by kernel_rfl) (fun _ _ _ h => h) (Or.inl ⟨by rfl, ?_⟩) (by assumption) ?_
      rotate_left
      · (intro w hSw; (try dsimp only at hSw); go_simp) <;> with_reducible rfl
      try simp only [Act.put, List.setIfInBounds_toArray, List.set_cons_zero, List.set_cons_succ, List.getElem_toArray, List.getElem_cons_succ, List.getElem_cons_zero]
      refine wpAnyH_done (by kernel_rfl) ?_ _
      go_wp2
      go_ret3
      exact ⟨L, _, _, m, rfl, own_base Ho9.out hsz2, Hf.out, hL, Hnm.out, b9⟩
    · skip
      have hgl : w.heap.size < w6.heap.size := Hs6.out.lt
      go_wp2_with fail
      refine wp_region_held_drew (S := (fun _ => True)) (by kernel_rfl) ?_ (fun hHeld => ?_)
      · (try dsimp only); first | done | trivial
      refine wpAnyH_take (i := 0) (v := ?_) rfl (by kernel_rfl) (by kernel_rfl) (by kernel_rfl) (fun _ _ _ h => h) (Or.inl ⟨by rfl, ?_⟩) (by assumption) ?_
      rotate_left
      · (intro w hSw; (try dsimp only at hSw); go_simp) <;> with_reducible rfl
      try simp only [Act.put, List.setIfInBounds_toArray, List.set_cons_zero, List.set_cons_succ, List.getElem_toArray, List.getElem_cons_succ, List.getElem_cons_zero]
      refine wpAnyH_take (i := 2) (v := ?_) rfl (by kernel_rfl) (by kernel_rfl) (by kernel_rfl) (fun _ _ _ h => h) (Or.inl ⟨by rfl, ?_⟩) (by assumption) ?_
      rotate_left
      · (intro w hSw; (try dsimp only at hSw); go_simp) <;> with_reducible rfl
      try simp only [Act.put, List.setIfInBounds_toArray, List.set_cons_zero, List.set_cons_succ, List.getElem_toArray, List.getElem_cons_succ, List.getElem_cons_zero]
      refine wpAnyH_take (i := 6) (v := ?_) rfl (by kernel_rfl) (by kernel_rfl) (by kernel_rfl) (fun _ _ _ h => h) (Or.inl ⟨by rfl, ?_⟩) (by assumption) ?_
      rotate_left
      · (intro w hSw; (try dsimp only at hSw); go_simp) <;> with_reducible rfl
      try simp only [Act.put, List.setIfInBounds_toArray, List.set_cons_zero, List.set_cons_succ, List.getElem_toArray, List.getElem_cons_succ, List.getElem_cons_zero]
      refine wpAnyH_ready (rs := [1, 3]) (by kernel_rfl) (by simp) ?_
      refine (AllReadyH.cons rfl (fun K hK => ?_) (AllReadyH.cons rfl (fun K hK => ?_) AllReadyH.nil))
      · skip
        try dsimp only [List.getElem_toArray, List.getElem_cons_succ, List.getElem_cons_zero]
        go_simp
        refine hK.out _ _ ?_ (fun hHeld => ?_)
        · (try dsimp only); first | done | trivial
        clear hK K
        try simp only [Act.put, List.setIfInBounds_toArray, List.set_cons_zero, List.set_cons_succ, List.getElem_toArray, List.getElem_cons_succ, List.getElem_cons_zero]
        refine wpAnyH_ready (rs := [3]) (by kernel_rfl) (by simp) ?_
        refine AllReadyH.cons rfl (fun K hK => ?_) AllReadyH.nil
        try dsimp only [List.getElem_toArray, List.getElem_cons_succ, List.getElem_cons_zero]
        go_simp
        refine (next_any _ _ _ A n c 3 ((draw_src Hs6.out _).below ((Below.refl _ _).alloc (Nat.le_refl _) (.cells #[.string ⟨#[110, 111, 98, 111, 100, 121]⟩, .string ⟨#[]⟩, .string ⟨#[97, 100, 97]⟩] 9)))).mono ?_
        rintro e w9 ⟨z, rfl, hz0, hs, hg⟩
        have hz : z < 3 := by omega
        clear hz0
        have cT0 : w9.cell? ⟨w6.heap.size, z, none⟩ = (#[.string ⟨#[110, 111, 98, 111, 100, 121]⟩, .string ⟨#[]⟩, .string ⟨#[97, 100, 97]⟩] : Array Value)[z]? := ((Blk.new (w6.drewN _) 9 #[.string ⟨#[110, 111, 98, 111, 100, 121]⟩, .string ⟨#[]⟩, .string ⟨#[97, 100, 97]⟩]).grown hg (fun e => by injection e with e; have := hgl; simp at e; omega)).cell z
        obtain ⟨nm, hnm, cT⟩ : ∃ nm : ByteArray, nm.size ≤ maxLen ∧ w9.cell? ⟨w6.heap.size, z, none⟩ = some (.string nm) := by
          rw [cT0]
          match z, hz with
          | 0, _ => exact ⟨_, by simp [ByteArray.size, maxLen], rfl⟩
          | 1, _ => exact ⟨_, by simp [ByteArray.size, maxLen], rfl⟩
          | 2, _ => exact ⟨_, by simp [ByteArray.size, maxLen], rfl⟩
        clear cT0
        have Hnm := Lib.hid hnm
        clear hnm
        have Ho9 := Lib.hid (((draw_own Ho6.out _).alloc _).kept hg (.inr Hone.out))
        have b9 : Below w.heap.size w w9 := ((below_drewN b6 _).alloc (by first | omega | (simp; omega)) _).trans (below_gb hg (Nat.le_refl _) (by first | omega | (simp; omega)))
        have j0 : (0 : Int) ≤ (z : Int) := Int.natCast_nonneg _
        have j1 : (z : Int) < 3 := by omega
        clear hs hg
        go_wp2_with fail
        refine hK.out _ _ ?_ (fun hHeld => ?_)
        · (try dsimp only); first | done | trivial
        clear hK K
        try simp only [Act.put, List.setIfInBounds_toArray, List.set_cons_zero, List.set_cons_succ, List.getElem_toArray, List.getElem_cons_succ, List.getElem_cons_zero]
        refine wpAnyH_take (i := 7) (v := ?_) rfl (by kernel_rfl) (by kernel_rfl) (by kernel_rfl) (fun _ _ _ h => h) (Or.inl ⟨by rfl, ?_⟩) (by assumption) ?_
        rotate_left
        · (intro w hSw; (try dsimp only at hSw); go_simp) <;> with_reducible rfl
        try simp only [Act.put, List.setIfInBounds_toArray, List.set_cons_zero, List.set_cons_succ, List.getElem_toArray, List.getElem_cons_succ, List.getElem_cons_zero]
        refine wpAnyH_take (i := 4) (v := ?_) rfl (by kernel_rfl) (by kernel_rfl) (by kernel_rfl) (fun _ _ _ h => h) (Or.inl ⟨by rfl, ?_⟩) (by assumption) ?_
        rotate_left
        · (intro w hSw; (try dsimp only at hSw); go_simp) <;> with_reducible rfl
        try simp only [Act.put, List.setIfInBounds_toArray, List.set_cons_zero, List.set_cons_succ, List.getElem_toArray, List.getElem_cons_succ, List.getElem_cons_zero]
        refine wpAnyH_ready (rs := [5]) (by kernel_rfl) (by simp) ?_
        refine AllReadyH.cons rfl (fun K hK => ?_) AllReadyH.nil
        try dsimp only [List.getElem_toArray, List.getElem_cons_succ, List.getElem_cons_zero]
        go_simp
        refine hK.out _ _ ?_ (fun hHeld => ?_)
        · (try dsimp only); first | done | trivial
        clear hK K
        try simp only [Act.put, List.setIfInBounds_toArray, List.set_cons_zero, List.set_cons_succ, List.getElem_toArray, List.getElem_cons_succ, List.getElem_cons_zero]
        refine wpAnyH_take (i := 8) (v := ?_) rfl (by kernel_rfl) (by kernel_rfl) (by kernel_rfl) (fun _ _ _ h => h) (Or.inl ⟨by rfl, ?_⟩) (by assumption) ?_
        rotate_left
        · (intro w hSw; (try dsimp only at hSw); go_simp) <;> with_reducible rfl
        try simp only [Act.put, List.setIfInBounds_toArray, List.set_cons_zero, List.set_cons_succ, List.getElem_toArray, List.getElem_cons_succ, List.getElem_cons_zero]
        refine wpAnyH_take (i := 9) (v := ?_) rfl (by kernel_rfl) (by kernel_rfl) (by kernel_rfl) (fun _ _ _ h => h) (Or.inl ⟨by rfl, ?_⟩) (by assumption) ?_
        rotate_left
        · (intro w hSw; (try dsimp only at hSw); go_simp) <;> with_reducible rfl
        try simp only [Act.put, List.setIfInBounds_toArray, List.set_cons_zero, List.set_cons_succ, List.getElem_toArray, List.getElem_cons_succ, List.getElem_cons_zero]
        refine wpAnyH_done (by kernel_rfl) ?_ _
        first
          | (go_wp2; go_ret3; exact ⟨L, _, nm, m, rfl, own_base Ho9.out hsz2, Hf.out, hL, Hnm.out, b9⟩)
          | (go_wp2; go_ret3; exact ⟨L, _, nm, m, rfl, own_base (Ho9.out.alloc _) hsz2, Hf.out, hL, Hnm.out, b9.alloc hsl9 _⟩)
      · skip
        try dsimp only [List.getElem_toArray, List.getElem_cons_succ, List.getElem_cons_zero]
        go_simp
        refine (next_any _ _ _ A n c 3 (draw_src Hs6.out _)).mono ?_
        rintro e w9 ⟨z, rfl, hz0, hs, hg⟩
        have hz : z < 3 := by omega
        clear hz0
        have cT0 : (w9.alloc (.cells #[.string ⟨#[110, 111, 98, 111, 100, 121]⟩, .string ⟨#[]⟩, .string ⟨#[97, 100, 97]⟩] 9)).cell? ⟨w9.heap.size, z, none⟩ = (#[.string ⟨#[110, 111, 98, 111, 100, 121]⟩, .string ⟨#[]⟩, .string ⟨#[97, 100, 97]⟩] : Array Value)[z]? := (Blk.new w9 9 #[.string ⟨#[110, 111, 98, 111, 100, 121]⟩, .string ⟨#[]⟩, .string ⟨#[97, 100, 97]⟩]).cell z
        obtain ⟨nm, hnm, cT⟩ : ∃ nm : ByteArray, nm.size ≤ maxLen ∧ (w9.alloc (.cells #[.string ⟨#[110, 111, 98, 111, 100, 121]⟩, .string ⟨#[]⟩, .string ⟨#[97, 100, 97]⟩] 9)).cell? ⟨w9.heap.size, z, none⟩ = some (.string nm) := by
          rw [cT0]
          match z, hz with
          | 0, _ => exact ⟨_, by simp [ByteArray.size, maxLen], rfl⟩
          | 1, _ => exact ⟨_, by simp [ByteArray.size, maxLen], rfl⟩
          | 2, _ => exact ⟨_, by simp [ByteArray.size, maxLen], rfl⟩
        clear cT0
        have Hnm := Lib.hid hnm
        clear hnm
        have hsl9 : w.heap.size ≤ w9.heap.size := by have := hs.lt; omega
        have Ho9 := Lib.hid ((draw_own Ho6.out _).kept hg (.inr Hone.out))
        have b9 : Below w.heap.size w w9 := (below_drewN b6 _).trans (below_gb hg (Nat.le_refl _) (by first | omega | (simp; omega)))
        have j0 : (0 : Int) ≤ (z : Int) := Int.natCast_nonneg _
        have j1 : (z : Int) < 3 := by omega
        clear hs hg
        go_wp2_with fail
        refine hK.out _ _ ?_ (fun hHeld => ?_)
        · (try dsimp only); first | done | trivial
        clear hK K
        try simp only [Act.put, List.setIfInBounds_toArray, List.set_cons_zero, List.set_cons_succ, List.getElem_toArray, List.getElem_cons_succ, List.getElem_cons_zero]
        refine wpAnyH_take (i := 7) (v := ?_) rfl (by kernel_rfl) (by kernel_rfl) (by kernel_rfl) (fun _ _ _ h => h) (Or.inl ⟨by rfl, ?_⟩) (by assumption) ?_
        rotate_left
        · (intro w hSw; (try dsimp only at hSw); go_simp) <;> with_reducible rfl
        try simp only [Act.put, List.setIfInBounds_toArray, List.set_cons_zero, List.set_cons_succ, List.getElem_toArray, List.getElem_cons_succ, List.getElem_cons_zero]
        refine wpAnyH_ready (rs := [1]) (by kernel_rfl) (by simp) ?_
        refine AllReadyH.cons rfl (fun K hK => ?_) AllReadyH.nil
        try dsimp only [List.getElem_toArray, List.getElem_cons_succ, List.getElem_cons_zero]
        go_simp
        refine hK.out _ _ ?_ (fun hHeld => ?_)
        · (try dsimp only); first | done | trivial
        clear hK K
        try simp only [Act.put, List.setIfInBounds_toArray, List.set_cons_zero, List.set_cons_succ, List.getElem_toArray, List.getElem_cons_succ, List.getElem_cons_zero]
        refine wpAnyH_take (i := 4) (v := ?_) rfl (by kernel_rfl) (by kernel_rfl) (by kernel_rfl) (fun _ _ _ h => h) (Or.inl ⟨by rfl, ?_⟩) (by assumption) ?_
        rotate_left
        · (intro w hSw; (try dsimp only at hSw); go_simp) <;> with_reducible rfl
        try simp only [Act.put, List.setIfInBounds_toArray, List.set_cons_zero, List.set_cons_succ, List.getElem_toArray, List.getElem_cons_succ, List.getElem_cons_zero]
        refine wpAnyH_ready (rs := [5]) (by kernel_rfl) (by simp) ?_
        refine AllReadyH.cons rfl (fun K hK => ?_) AllReadyH.nil
        try dsimp only [List.getElem_toArray, List.getElem_cons_succ, List.getElem_cons_zero]
        go_simp
        refine hK.out _ _ ?_ (fun hHeld => ?_)
        · (try dsimp only); first | done | trivial
        clear hK K
        try simp only [Act.put, List.setIfInBounds_toArray, List.set_cons_zero, List.set_cons_succ, List.getElem_toArray, List.getElem_cons_succ, List.getElem_cons_zero]
        refine wpAnyH_take (i := 8) (v := ?_) rfl (by kernel_rfl) (by kernel_rfl) (by kernel_rfl) (fun _ _ _ h => h) (Or.inl ⟨by rfl, ?_⟩) (by assumption) ?_
        rotate_left
        · (intro w hSw; (try dsimp only at hSw); go_simp) <;> with_reducible rfl
        try simp only [Act.put, List.setIfInBounds_toArray, List.set_cons_zero, List.set_cons_succ, List.getElem_toArray, List.getElem_cons_succ, List.getElem_cons_zero]
        refine wpAnyH_take (i := 9) (v := ?_) rfl (by kernel_rfl) (by kernel_rfl) (by kernel_rfl) (fun _ _ _ h => h) (Or.inl ⟨by rfl, ?_⟩) (by assumption) ?_
        rotate_left
        · (intro w hSw; (try dsimp only at hSw); go_simp) <;> with_reducible rfl
        try simp only [Act.put, List.setIfInBounds_toArray, List.set_cons_zero, List.set_cons_succ, List.getElem_toArray, List.getElem_cons_succ, List.getElem_cons_zero]
        refine wpAnyH_done (by kernel_rfl) ?_ _
        first
          | (go_wp2; go_ret3; exact ⟨L, _, nm, m, rfl, own_base Ho9.out hsz2, Hf.out, hL, Hnm.out, b9⟩)
          | (go_wp2; go_ret3; exact ⟨L, _, nm, m, rfl, own_base (Ho9.out.alloc _) hsz2, Hf.out, hL, Hnm.out, b9.alloc hsl9 _⟩)
  · skip
    have hl0 : L.length = 0 := by omega
    have hli : ¬ (0 : Int) < (L.length : Int) := by omega
    clear hl0 hlt
    have hgl : w.heap.size < w5.heap.size := Hs5.out.lt
    go_wp2_with fail
    refine wp_region_held_drew (S := (fun _ => True)) (by kernel_rfl) ?_ (fun hHeld => ?_)
    · (try dsimp only); first | done | trivial
    refine wpAnyH_take (i := 0) (v := ?_) rfl (by kernel_rfl) (by kernel_rfl) (by kernel_rfl) (fun _ _ _ h => h) (Or.inl ⟨by rfl, ?_⟩) (by assumption) ?_
    rotate_left
    · (intro w hSw; (try dsimp only at hSw); go_simp) <;> with_reducible rfl
    try simp only [Act.put, List.setIfInBounds_toArray, List.set_cons_zero, List.set_cons_succ, List.getElem_toArray, List.getElem_cons_succ, List.getElem_cons_zero]
    refine wpAnyH_take (i := 2) (v := ?_) rfl (by kernel_rfl) (by kernel_rfl) (by kernel_rfl) (fun _ _ _ h => h) (Or.inl ⟨by rfl, ?_⟩) (by assumption) ?_
    rotate_left
    · (intro w hSw; (try dsimp only at hSw); go_simp) <;> with_reducible rfl
    try simp only [Act.put, List.setIfInBounds_toArray, List.set_cons_zero, List.set_cons_succ, List.getElem_toArray, List.getElem_cons_succ, List.getElem_cons_zero]
    refine wpAnyH_take (i := 6) (v := ?_) rfl (by kernel_rfl) (by kernel_rfl) (by kernel_rfl) (fun _ _ _ h => h) (Or.inl ⟨by rfl, ?_⟩) (by assumption) ?_
    rotate_left
    · (intro w hSw; (try dsimp only at hSw); go_simp) <;> with_reducible rfl
    try simp only [Act.put, List.setIfInBounds_toArray, List.set_cons_zero, List.set_cons_succ, List.getElem_toArray, List.getElem_cons_succ, List.getElem_cons_zero]
    refine wpAnyH_ready (rs := [1, 3]) (by kernel_rfl) (by simp) ?_
    refine (AllReadyH.cons rfl (fun K hK => ?_) (AllReadyH.cons rfl (fun K hK => ?_) AllReadyH.nil))
    · skip
      try dsimp only [List.getElem_toArray, List.getElem_cons_succ, List.getElem_cons_zero]
      go_simp
      refine hK.out _ _ ?_ (fun hHeld => ?_)
      · (try dsimp only); first | done | trivial
      clear hK K
      try simp only [Act.put, List.setIfInBounds_toArray, List.set_cons_zero, List.set_cons_succ, List.getElem_toArray, List.getElem_cons_succ, List.getElem_cons_zero]
      refine wpAnyH_ready (rs := [3]) (by kernel_rfl) (by simp) ?_
      refine AllReadyH.cons rfl (fun K hK => ?_) AllReadyH.nil
      try dsimp only [List.getElem_toArray, List.getElem_cons_succ, List.getElem_cons_zero]
      go_simp
      refine (next_any _ _ _ A n c 3 ((draw_src Hs5.out _).below ((Below.refl _ _).alloc (Nat.le_refl _) (.cells #[.string ⟨#[110, 111, 98, 111, 100, 121]⟩, .string ⟨#[]⟩, .string ⟨#[97, 100, 97]⟩] 9)))).mono ?_
      rintro e w9 ⟨z, rfl, hz0, hs, hg⟩
      have hz : z < 3 := by omega
      clear hz0
      have cT0 : w9.cell? ⟨w5.heap.size, z, none⟩ = (#[.string ⟨#[110, 111, 98, 111, 100, 121]⟩, .string ⟨#[]⟩, .string ⟨#[97, 100, 97]⟩] : Array Value)[z]? := ((Blk.new (w5.drewN _) 9 #[.string ⟨#[110, 111, 98, 111, 100, 121]⟩, .string ⟨#[]⟩, .string ⟨#[97, 100, 97]⟩]).grown hg (fun e => by injection e with e; have := hgl; simp at e; omega)).cell z
      obtain ⟨nm, hnm, cT⟩ : ∃ nm : ByteArray, nm.size ≤ maxLen ∧ w9.cell? ⟨w5.heap.size, z, none⟩ = some (.string nm) := by
        rw [cT0]
        match z, hz with
        | 0, _ => exact ⟨_, by simp [ByteArray.size, maxLen], rfl⟩
        | 1, _ => exact ⟨_, by simp [ByteArray.size, maxLen], rfl⟩
        | 2, _ => exact ⟨_, by simp [ByteArray.size, maxLen], rfl⟩
      clear cT0
      have Hnm := Lib.hid hnm
      clear hnm
      have Ho9 := Lib.hid (((draw_own Ho5.out _).alloc _).kept hg (.inr Hone.out))
      have b9 : Below w.heap.size w w9 := ((below_drewN b5 _).alloc (by first | omega | (simp; omega)) _).trans (below_gb hg (Nat.le_refl _) (by first | omega | (simp; omega)))
      have j0 : (0 : Int) ≤ (z : Int) := Int.natCast_nonneg _
      have j1 : (z : Int) < 3 := by omega
      clear hs hg
      go_wp2_with fail
      refine hK.out _ _ ?_ (fun hHeld => ?_)
      · (try dsimp only); first | done | trivial
      clear hK K
      try simp only [Act.put, List.setIfInBounds_toArray, List.set_cons_zero, List.set_cons_succ, List.getElem_toArray, List.getElem_cons_succ, List.getElem_cons_zero]
      refine wpAnyH_take (i := 7) (v := ?_) rfl (by kernel_rfl) (by kernel_rfl) (by kernel_rfl) (fun _ _ _ h => h) (Or.inl ⟨by rfl, ?_⟩) (by assumption) ?_
      rotate_left
      · (intro w hSw; (try dsimp only at hSw); go_simp) <;> with_reducible rfl
      try simp only [Act.put, List.setIfInBounds_toArray, List.set_cons_zero, List.set_cons_succ, List.getElem_toArray, List.getElem_cons_succ, List.getElem_cons_zero]
      refine wpAnyH_take (i := 4) (v := ?_) rfl (by kernel_rfl) (by kernel_rfl) (by kernel_rfl) (fun _ _ _ h => h) (Or.inl ⟨by rfl, ?_⟩) (by assumption) ?_
      rotate_left
      · (intro w hSw; (try dsimp only at hSw); go_simp) <;> with_reducible rfl
      try simp only [Act.put, List.setIfInBounds_toArray, List.set_cons_zero, List.set_cons_succ, List.getElem_toArray, List.getElem_cons_succ, List.getElem_cons_zero]
      refine wpAnyH_ready (rs := [5]) (by kernel_rfl) (by simp) ?_
      refine AllReadyH.cons rfl (fun K hK => ?_) AllReadyH.nil
      try dsimp only [List.getElem_toArray, List.getElem_cons_succ, List.getElem_cons_zero]
      go_simp
      refine hK.out _ _ ?_ (fun hHeld => ?_)
      · (try dsimp only); first | done | trivial
      clear hK K
      try simp only [Act.put, List.setIfInBounds_toArray, List.set_cons_zero, List.set_cons_succ, List.getElem_toArray, List.getElem_cons_succ, List.getElem_cons_zero]
      refine wpAnyH_take (i := 8) (v := ?_) rfl (by kernel_rfl) (by kernel_rfl) (by kernel_rfl) (fun _ _ _ h => h) (Or.inl ⟨by rfl, ?_⟩) (by assumption) ?_
      rotate_left
      · (intro w hSw; (try dsimp only at hSw); go_simp) <;> with_reducible rfl
      try simp only [Act.put, List.setIfInBounds_toArray, List.set_cons_zero, List.set_cons_succ, List.getElem_toArray, List.getElem_cons_succ, List.getElem_cons_zero]
      refine wpAnyH_take (i := 9) (v := ?_) rfl (by kernel_rfl) (by kernel_rfl) (by kernel_rfl) (fun _ _ _ h => h) (Or.inl ⟨by rfl, ?_⟩) (by assumption) ?_
      rotate_left
      · (intro w hSw; (try dsimp only at hSw); go_simp) <;> with_reducible rfl
      try simp only [Act.put, List.setIfInBounds_toArray, List.set_cons_zero, List.set_cons_succ, List.getElem_toArray, List.getElem_cons_succ, List.getElem_cons_zero]
      refine wpAnyH_done (by kernel_rfl) ?_ _
      first
        | (go_wp2; go_ret3; exact ⟨L, _, nm, m, rfl, own_base Ho9.out hsz2, Hf.out, hL, Hnm.out, b9⟩)
        | (go_wp2; go_ret3; exact ⟨L, _, nm, m, rfl, own_base (Ho9.out.alloc _) hsz2, Hf.out, hL, Hnm.out, b9.alloc hsl9 _⟩)
    · skip
      try dsimp only [List.getElem_toArray, List.getElem_cons_succ, List.getElem_cons_zero]
      go_simp
      refine (next_any _ _ _ A n c 3 (draw_src Hs5.out _)).mono ?_
      rintro e w9 ⟨z, rfl, hz0, hs, hg⟩
      have hz : z < 3 := by omega
      clear hz0
      have cT0 : (w9.alloc (.cells #[.string ⟨#[110, 111, 98, 111, 100, 121]⟩, .string ⟨#[]⟩, .string ⟨#[97, 100, 97]⟩] 9)).cell? ⟨w9.heap.size, z, none⟩ = (#[.string ⟨#[110, 111, 98, 111, 100, 121]⟩, .string ⟨#[]⟩, .string ⟨#[97, 100, 97]⟩] : Array Value)[z]? := (Blk.new w9 9 #[.string ⟨#[110, 111, 98, 111, 100, 121]⟩, .string ⟨#[]⟩, .string ⟨#[97, 100, 97]⟩]).cell z
      obtain ⟨nm, hnm, cT⟩ : ∃ nm : ByteArray, nm.size ≤ maxLen ∧ (w9.alloc (.cells #[.string ⟨#[110, 111, 98, 111, 100, 121]⟩, .string ⟨#[]⟩, .string ⟨#[97, 100, 97]⟩] 9)).cell? ⟨w9.heap.size, z, none⟩ = some (.string nm) := by
        rw [cT0]
        match z, hz with
        | 0, _ => exact ⟨_, by simp [ByteArray.size, maxLen], rfl⟩
        | 1, _ => exact ⟨_, by simp [ByteArray.size, maxLen], rfl⟩
        | 2, _ => exact ⟨_, by simp [ByteArray.size, maxLen], rfl⟩
      clear cT0
      have Hnm := Lib.hid hnm
      clear hnm
      have hsl9 : w.heap.size ≤ w9.heap.size := by have := hs.lt; omega
      have Ho9 := Lib.hid ((draw_own Ho5.out _).kept hg (.inr Hone.out))
      have b9 : Below w.heap.size w w9 := (below_drewN b5 _).trans (below_gb hg (Nat.le_refl _) (by first | omega | (simp; omega)))
      have j0 : (0 : Int) ≤ (z : Int) := Int.natCast_nonneg _
      have j1 : (z : Int) < 3 := by omega
      clear hs hg
      go_wp2_with fail
      refine hK.out _ _ ?_ (fun hHeld => ?_)
      · (try dsimp only); first | done | trivial
      clear hK K
      try simp only [Act.put, List.setIfInBounds_toArray, List.set_cons_zero, List.set_cons_succ, List.getElem_toArray, List.getElem_cons_succ, List.getElem_cons_zero]
      refine wpAnyH_take (i := 7) (v := ?_) rfl (by kernel_rfl) (by kernel_rfl) (by kernel_rfl) (fun _ _ _ h => h) (Or.inl ⟨by rfl, ?_⟩) (by assumption) ?_
      rotate_left
      · (intro w hSw; (try dsimp only at hSw); go_simp) <;> with_reducible rfl
      try simp only [Act.put, List.setIfInBounds_toArray, List.set_cons_zero, List.set_cons_succ, List.getElem_toArray, List.getElem_cons_succ, List.getElem_cons_zero]
      refine wpAnyH_ready (rs := [1]) (by kernel_rfl) (by simp) ?_
      refine AllReadyH.cons rfl (fun K hK => ?_) AllReadyH.nil
      try dsimp only [List.getElem_toArray, List.getElem_cons_succ, List.getElem_cons_zero]
      go_simp
      refine hK.out _ _ ?_ (fun hHeld => ?_)
      · (try dsimp only); first | done | trivial
      clear hK K
      try simp only [Act.put, List.setIfInBounds_toArray, List.set_cons_zero, List.set_cons_succ, List.getElem_toArray, List.getElem_cons_succ, List.getElem_cons_zero]
      refine wpAnyH_take (i := 4) (v := ?_) rfl (by kernel_rfl) (by kernel_rfl) (by kernel_rfl) (fun _ _ _ h => h) (Or.inl ⟨by rfl, ?_⟩) (by assumption) ?_
      rotate_left
      · (intro w hSw; (try dsimp only at hSw); go_simp) <;> with_reducible rfl
      try simp only [Act.put, List.setIfInBounds_toArray, List.set_cons_zero, List.set_cons_succ, List.getElem_toArray, List.getElem_cons_succ, List.getElem_cons_zero]
      refine wpAnyH_ready (rs := [5]) (by kernel_rfl) (by simp) ?_
      refine AllReadyH.cons rfl (fun K hK => ?_) AllReadyH.nil
      try dsimp only [List.getElem_toArray, List.getElem_cons_succ, List.getElem_cons_zero]
      go_simp
      refine hK.out _ _ ?_ (fun hHeld => ?_)
      · (try dsimp only); first | done | trivial
      clear hK K
      try simp only [Act.put, List.setIfInBounds_toArray, List.set_cons_zero, List.set_cons_succ, List.getElem_toArray, List.getElem_cons_succ, List.getElem_cons_zero]
      refine wpAnyH_take (i := 8) (v := ?_) rfl (by kernel_rfl) (by kernel_rfl) (by kernel_rfl) (fun _ _ _ h => h) (Or.inl ⟨by rfl, ?_⟩) (by assumption) ?_
      rotate_left
      · (intro w hSw; (try dsimp only at hSw); go_simp) <;> with_reducible rfl
      try simp only [Act.put, List.setIfInBounds_toArray, List.set_cons_zero, List.set_cons_succ, List.getElem_toArray, List.getElem_cons_succ, List.getElem_cons_zero]
      refine wpAnyH_take (i := 9) (v := ?_) rfl (by kernel_rfl) (by kernel_rfl) (by kernel_rfl) (fun _ _ _ h => h) (Or.inl ⟨by rfl, ?_⟩) (by assumption) ?_
      rotate_left
      · (intro w hSw; (try dsimp only at hSw); go_simp) <;> with_reducible rfl
      try simp only [Act.put, List.setIfInBounds_toArray, List.set_cons_zero, List.set_cons_succ, List.getElem_toArray, List.getElem_cons_succ, List.getElem_cons_zero]
      refine wpAnyH_done (by kernel_rfl) ?_ _
      first
        | (go_wp2; go_ret3; exact ⟨L, _, nm, m, rfl, own_base Ho9.out hsz2, Hf.out, hL, Hnm.out, b9⟩)
        | (go_wp2; go_ret3; exact ⟨L, _, nm, m, rfl, own_base (Ho9.out.alloc _) hsz2, Hf.out, hL, Hnm.out, b9.alloc hsl9 _⟩)

set_option maxHeartbeats 4000000 in
theorem drawKept_any (w : World) (A : Option Addr) (n c : Nat) (hcode : Code w A n) (hn : n ≤ 4096) (hc : n ≤ c ∧ c ≤ maxLen) :
    Calls Try.prog 49 #[.slice A n c] w fun e w' => ∃ (L : List Promise) (v : Value) , e = .returned (v) ∧ w'.ownsRow w.heap.size 43 3 v L.length (promiseRow L) ∧ promiseFit L ∧ L.length ≤ 41 ∧ Below w.heap.size w w' := by
  go_enter Try.func49, Try.ntmps49
  go_wp2_with fail
  refine (from_any w A n c hcode hn hc).mono ?_
  rintro e w2 ⟨rfl, hs2, hb2⟩
  have Hs2 := Lib.hid hs2
  have hsz2 := hb2.size
  have hgl2 := hs2.lt
  clear hs2
  go_wp2_with fail
  refine (draw_any w2 w.heap.size w.heap.size A n c Hs2.out).mono ?_
  rintro e w3 ⟨L, v, rfl, ho3, hf, hL, hs3, hg3⟩
  obtain ⟨Ao, co, rfl, hoc, hoc2⟩ := own_slice ho3
  have Hs3 := Lib.hid hs3
  have hone : (Value.slice Ao L.length co).ownBlock ≠ some w.heap.size := fun h => by have := (World.ownsRow.lt ho3 _ h).1; omega
  have Hone := Lib.hid hone
  have Ho3 := Lib.hid ho3
  have Hf := Lib.hid hf
  have hgl3 : w.heap.size < w3.heap.size := hs3.lt
  have b3 : Below w.heap.size w w3 := hb2.trans (below_gb hg3 (Nat.le_refl _) (by omega))
  clear hs3 hg3 ho3 hone hf
  go_wp2
  go_ret
  exact ⟨L, _, rfl, own_base Ho3.out hsz2, Hf.out, hL, b3⟩

end Go.Proofs.Ytgafjchbfbpmmaa
