/- The walks of l23Good, l23Draw: some promises are drawn. Printed by gen_drawp.py. -/
import Derived.Test.YtgafjchbfbpmmaaSrcF
import Derived.Test.YtgafjchbfbpmmaaDraws
import Derived.Test.YtgafjchbfbpmmaaPromiseS
import Derived.Test.YtgafjchbfbpmmaaStrs
namespace Go.Proofs.Ytgafjchbfbpmmaa
open Go.RowKit

theorem promiseFit_app {L : List Promise} {p : Promise} (hf : promiseFit L) (hp : p.name.size ≤ maxLen) : promiseFit (L ++ [p]) := by
  intro i hi
  simp only [List.length_append, List.length_cons, List.length_nil] at hi
  by_cases h : i < L.length
  · rw [promiseAt_append_lt h]; exact hf i h
  · have : i = L.length := by omega
    subst this
    have : promiseAt (L ++ [p]) L.length = p := by simp [promiseAt, List.getD]
    rw [this]; exact hp
theorem nx_size (x y z : ByteArray) (a b c d : Nat) (h : x.size + y.size + z.size ≤ 100) : (x ++ y.extract a b ++ z.extract c d).size ≤ maxLen := by
  rw [ByteArray.size_append, ByteArray.size_append, ByteArray.size_extract, ByteArray.size_extract]; unfold maxLen; omega
def drawNames : List ByteArray := [⟨#[97, 100, 97]⟩, ⟨#[98, 111]⟩, ⟨#[99, 121]⟩, ⟨#[100, 101, 101]⟩, ⟨#[101, 118, 101]⟩, ⟨#[102, 97, 121]⟩, ⟨#[103, 105, 108]⟩, ⟨#[104, 97, 108]⟩]
theorem drawNames_fit {k : Nat} (h : k < 8) : (strsAt drawNames k).size ≤ maxLen := by
  match k, h with
  | 0, _ => simp [strsAt, drawNames, ByteArray.size, maxLen]
  | 1, _ => simp [strsAt, drawNames, ByteArray.size, maxLen]
  | 2, _ => simp [strsAt, drawNames, ByteArray.size, maxLen]
  | 3, _ => simp [strsAt, drawNames, ByteArray.size, maxLen]
  | 4, _ => simp [strsAt, drawNames, ByteArray.size, maxLen]
  | 5, _ => simp [strsAt, drawNames, ByteArray.size, maxLen]
  | 6, _ => simp [strsAt, drawNames, ByteArray.size, maxLen]
  | 7, _ => simp [strsAt, drawNames, ByteArray.size, maxLen]
  | k + 8, h => omega

theorem names_at {k : Nat} (h : k < 8) : (#[.string ⟨#[97, 100, 97]⟩, .string ⟨#[98, 111]⟩, .string ⟨#[99, 121]⟩, .string ⟨#[100, 101, 101]⟩, .string ⟨#[101, 118, 101]⟩, .string ⟨#[102, 97, 121]⟩, .string ⟨#[103, 105, 108]⟩, .string ⟨#[104, 97, 108]⟩] : Array Value)[k]? = some (.string (strsAt drawNames k)) := by
  match k, h with
  | 0, _ => rfl
  | 1, _ => rfl
  | 2, _ => rfl
  | 3, _ => rfl
  | 4, _ => rfl
  | 5, _ => rfl
  | 6, _ => rfl
  | 7, _ => rfl
  | k + 8, h => omega

set_option maxHeartbeats 4000000 in
theorem good_any (w : World) (base g : Nat) (A : Option Addr) (n c : Nat) (s : ByteArray) (hs : Src w base g A n c) :
    Calls Try.prog 79 #[.pointer (some ⟨g, 0, none⟩), .string s] w fun e w' => ∃ p : Promise, e = .returned (.agg #[.string p.name, .int .i64 p.day, .int .i64 p.min]) ∧ p.name = s ∧ Src w' base g A n c ∧ w.grownBy w' (some g) := by
  have Hs := Lib.hid hs
  have hgl := hs.lt
  clear hs
  go_enter Try.func79, Try.ntmps79
  go_wp2_with fail
  refine (next_any _ base g A n c 5 (Hs.out.below ((Below.refl _ _).alloc (Nat.le_refl _) _))).mono ?_
  rintro e w2 ⟨x, rfl, hx, hs2, hg2⟩
  have hx5 : x < 5 := by omega
  have R2 := Lib.hid ((Blk.new w 43 #[.string ⟨#[]⟩, .int .i64 0, .int .i64 0]).grown hg2 (fun e => by injection e; omega))
  have G2 := Lib.hid (gb_trans (below_grown ((Below.refl _ _).alloc (Nat.le_refl _) (.cells #[.string ⟨#[]⟩, .int .i64 0, .int .i64 0] 43)) (some g)) hg2)
  have S2 := Lib.hid hs2
  have x1 := IntWalk.i64_in (1 + (x : Int)) (by omega)
  clear hs2 hg2 hx
  go_wp2_with fail
  refine (next_any w2 base g A n c 30 S2.out).mono ?_
  rintro e w3 ⟨y, rfl, hy, hs3, hg3⟩
  have hy30 : y < 30 := by omega
  have R3 := Lib.hid (R2.out.grown hg3 (fun e => by injection e; omega))
  have G3 := Lib.hid (gb_trans G2.out hg3)
  have S3 := Lib.hid hs3
  have y1 := IntWalk.i64_in (1 + (y : Int)) (by omega)
  have y2 := IntWalk.i64_in (10 * (1 + (y : Int))) (by omega)
  have e0 := R3.out.cell 0
  have e1 := R3.out.cell 1
  have e2 := R3.out.cell 2
  have f0 := R3.out.frozen 0
  have f1 := R3.out.frozen 1
  have f2 := R3.out.frozen 2
  simp only [List.getElem?_toArray, List.getElem?_cons_zero, List.getElem?_cons_succ] at e0 e1 e2
  clear hs3 hg3 hy
  go_wp2
  have k3 : w3.grownBy (((w3.setCell ⟨w.heap.size, 0, none⟩ (.string s)).setCell ⟨w.heap.size, 1, none⟩ (.int .i64 (1 + (x : Int)))).setCell ⟨w.heap.size, 2, none⟩ (.int .i64 (10 * (1 + (y : Int))))) (some w.heap.size) :=
    gb_trans (gb_trans (gb_set _ ⟨w.heap.size, 0, none⟩ _) (gb_set _ ⟨w.heap.size, 1, none⟩ _)) (gb_set _ ⟨w.heap.size, 2, none⟩ _)
  refine bodyPost_ret (v := .agg #[.string s, .int .i64 (1 + (x : Int)), .int .i64 (10 * (1 + (y : Int)))]) (by simp [results, Try.results79, go_sem, e0, e1, e2]) rfl ⟨⟨s, 1 + (x : Int), 10 * (1 + (y : Int))⟩, rfl, rfl, S3.out.other k3 (fun q hq => by injection hq; omega), gb_other G3.out k3 (fun q hq => by injection hq; omega)⟩

set_option maxHeartbeats 16000000 in
theorem draw_any (w : World) (base g : Nat) (A : Option Addr) (n c : Nat) (hs : Src w base g A n c) :
    Calls Try.prog 76 #[.pointer (some ⟨g, 0, none⟩)] w (DrawPost 43 3 promiseRow promiseFit 41 base g A n c w) := by
  have Hs := Lib.hid hs
  have hgl := hs.lt
  obtain ⟨i0, hi, hz0, hz1, hz2⟩ := info_parts Try.infoPromise
  clear hs
  go_enter Try.func76, Try.ntmps76
  go_wp2_with fail
  refine (pick_any _ base g A n c [2, 3, 8] _ (((Hs.out.below ((Below.refl _ _).alloc (Nat.le_refl _) (.cells #[] 43))).below ((Below.refl _ _).alloc (Nat.le_refl _) (.cells #[.string ⟨#[97, 100, 97]⟩, .string ⟨#[98, 111]⟩, .string ⟨#[99, 121]⟩, .string ⟨#[100, 101, 101]⟩, .string ⟨#[101, 118, 101]⟩, .string ⟨#[102, 97, 121]⟩, .string ⟨#[103, 105, 108]⟩, .string ⟨#[104, 97, 108]⟩] 9))).below ((Below.refl _ _).alloc (Nat.le_refl _) (.cells #[.int .i64 2, .int .i64 3, .int .i64 8] 2))) (by have := sl_laid ((w.alloc (.cells #[] 43)).alloc (.cells #[.string ⟨#[97, 100, 97]⟩, .string ⟨#[98, 111]⟩, .string ⟨#[99, 121]⟩, .string ⟨#[100, 101, 101]⟩, .string ⟨#[101, 118, 101]⟩, .string ⟨#[102, 97, 121]⟩, .string ⟨#[103, 105, 108]⟩, .string ⟨#[104, 97, 108]⟩] 9)) [2, 3, 8] (by simp [maxLen]); simpa [intsRow] using this) (by simp) (by simp) (fun h => by have hg0 := Hs.out.lt; have : ((w.alloc (.cells #[] 43)).alloc (.cells #[.string ⟨#[97, 100, 97]⟩, .string ⟨#[98, 111]⟩, .string ⟨#[99, 121]⟩, .string ⟨#[100, 101, 101]⟩, .string ⟨#[101, 118, 101]⟩, .string ⟨#[102, 97, 121]⟩, .string ⟨#[103, 105, 108]⟩, .string ⟨#[104, 97, 108]⟩] 9)).heap.size = g := (by simpa [Value.ownBlock] using h); first | omega | (simp at this; omega))).mono ?_
  rintro e w3 ⟨m, hmm, rfl, hs, hg⟩
  have HBn : Hid (Blk w3 (w.heap.size + 1) 9 #[.string ⟨#[97, 100, 97]⟩, .string ⟨#[98, 111]⟩, .string ⟨#[99, 121]⟩, .string ⟨#[100, 101, 101]⟩, .string ⟨#[101, 118, 101]⟩, .string ⟨#[102, 97, 121]⟩, .string ⟨#[103, 105, 108]⟩, .string ⟨#[104, 97, 108]⟩]) := Lib.hid (by have := ((Blk.new (w.alloc (.cells #[] 43)) 9 #[.string ⟨#[97, 100, 97]⟩, .string ⟨#[98, 111]⟩, .string ⟨#[99, 121]⟩, .string ⟨#[100, 101, 101]⟩, .string ⟨#[101, 118, 101]⟩, .string ⟨#[102, 97, 121]⟩, .string ⟨#[103, 105, 108]⟩, .string ⟨#[104, 97, 108]⟩]).alloc (.cells #[.int .i64 2, .int .i64 3, .int .i64 8] 2)).grown hg (fun e => by injection e with e; simp at e; omega); simpa using this)
  have HO3 := Lib.hid ((((own_empty w 43 3 (Nat.le_refl _)).alloc _).alloc _).kept hg (.inr (by simp [Value.ownBlock]; omega)))
  have Hs3 := Lib.hid hs
  have Hg3 := Lib.hid (gb_trans (gb_below (gb_below (gb_below (gb_refl _ _) ((Below.refl _ _).alloc (Nat.le_refl _) (.cells #[] 43))) ((Below.refl _ _).alloc (Nat.le_refl _) (.cells #[.string ⟨#[97, 100, 97]⟩, .string ⟨#[98, 111]⟩, .string ⟨#[99, 121]⟩, .string ⟨#[100, 101, 101]⟩, .string ⟨#[101, 118, 101]⟩, .string ⟨#[102, 97, 121]⟩, .string ⟨#[103, 105, 108]⟩, .string ⟨#[104, 97, 108]⟩] 9))) ((Below.refl _ _).alloc (Nat.le_refl _) (.cells #[.int .i64 2, .int .i64 3, .int .i64 8] 2))) hg)
  have hsz3 := Hg3.out.size
  clear hs hg
  have hm8 : 2 ≤ m ∧ m ≤ 8 := by simp at hmm; omega
  clear hmm
  skip
  have HLn : Hid (g < w.heap.size + 1) := Lib.hid (by omega)
  go_wp2
  go_loopw [3, 6] (fun o i wr => ∃ (L : List Promise) (Ao : Option Addr) (co k : Nat), o = .slice Ao L.length co ∧ i = .int .i64 k ∧ k ≤ 8 ∧ L.length ≤ k ∧ promiseFit L ∧ wr.ownsRow w.heap.size 43 3 (.slice Ao L.length co) L.length (promiseRow L) ∧ Src wr base g A n c ∧ Blk wr (w.heap.size + 1) 9 #[.string ⟨#[97, 100, 97]⟩, .string ⟨#[98, 111]⟩, .string ⟨#[99, 121]⟩, .string ⟨#[100, 101, 101]⟩, .string ⟨#[101, 118, 101]⟩, .string ⟨#[102, 97, 121]⟩, .string ⟨#[103, 105, 108]⟩, .string ⟨#[104, 97, 108]⟩] ∧ (Value.slice Ao L.length co).ownBlock ≠ some (w.heap.size + 1) ∧ w.grownBy wr (some g)) (fun _ i _ => 8 - (intOf i).toNat)
  case atStart => exact ⟨[], some ⟨w.heap.size, 0, none⟩, 0, 0, rfl, rfl, by omega, by simp, (fun i hi => by simp at hi), HO3.out, Hs3.out, HBn.out, (by simp [Value.ownBlock]), Hg3.out⟩
  case round =>
    clear HO3 Hs3 HBn Hg3
    obtain ⟨L, Ao, co, k, rfl, rfl, hk, hLk, hf, ho, hsr, hB, hne, hg⟩ := hrel
    have Hs1 := Lib.hid hsr
    have Hg1 := Lib.hid hg
    have Ho1 := Lib.hid ho
    have HB1 := Lib.hid hB
    have HN1 := Lib.hid hne
    have Hf := Lib.hid hf
    have NG := Lib.hid (show (Value.slice Ao L.length co).ownBlock ≠ some g from fun h => by have := (World.ownsRow.lt ho g h).1; omega)
    have hsz1 := hg.size
    clear hsr hg ho hB hne hf
    by_cases hk8 : k < 8
    · skip
      go_wp2_with fail
      refine (next_any _ base g A n c m Hs1.out).mono ?_
      rintro e w4 ⟨x, rfl, hx, hs, hg⟩
      clear hx
      have Hs4 := Lib.hid hs
      have Hg4 := Lib.hid (gb_trans Hg1.out hg)
      have Ho4 := Lib.hid (Ho1.out.kept hg (.inr NG.out))
      have HB4n := Lib.hid (HB1.out.grown hg (fun e => by injection e; have := HLn.out; omega))
      have hsz4 := Hg4.out.size
      clear hs hg
      by_cases hx0 : x = 0
      · subst hx0
        have cN : w4.cell? ⟨w.heap.size + 1, k, none⟩ = some (.string (strsAt drawNames k)) := by rw [HB4n.out.cell k]; exact names_at hk8
        have j0 : (0 : Int) ≤ (k : Int) := Int.natCast_nonneg _
        have j1 : (k : Int) < 8 := by omega
        go_wp2_with fail
        refine (good_any _ base g A n c _ Hs4.out).mono ?_
        rintro e w5 ⟨p, rfl, hpn, hs, hg⟩
        have HP := Lib.hid hpn
        clear hpn
        have Hs5 := Lib.hid hs
        have Hg5 := Lib.hid (gb_trans Hg4.out hg)
        have Ho5 := Lib.hid (Ho4.out.kept hg (.inr NG.out))
        have HB5n := Lib.hid (HB4n.out.grown hg (fun e => by injection e; have := HLn.out; omega))
        have hsz5 := Hg5.out.size
        clear hs hg
        clear cN
        go_wp2_with (at_builtin; refine wpList_append_sl _ rfl (.tmp 32) (.tmp 39) _ rfl w.heap.size 43 i0 _ 3 32 Try.underlying25 hi hz0 hz1 hz2 rfl (by omega) _ L.length (promiseRow L) rfl (Ho5.out.alloc _) (some ⟨w5.heap.size, 0, none⟩) 1 1 (promiseCells p) rfl (Rd.of_block (cs := #[.string p.name, .int .i64 p.day, .int .i64 p.min]) (heap_alloc_new _ _) rfl) (promiseCells_one _) (by unfold maxLen; omega) (by omega) (by simp; omega) ?_; intro A9 c9 w6 ho9 hg9 hor9)
        have hrow : (∀ q, (Value.slice Ao L.length co).ownBlock = some q → w.heap.size ≤ q ∧ q < w5.heap.size) := (fun q hq => World.ownsRow.lt Ho5.out q hq)
        have Hs6 := Lib.hid ((Hs5.out.below ((Below.refl _ _).alloc (Nat.le_refl _) (.cells #[.string p.name, .int .i64 p.day, .int .i64 p.min] 43))).other hg9 (fun q hq => by have := (hrow q hq).1; omega))
        have Hg6 := Lib.hid (gb_other (gb_below Hg5.out ((Below.refl _ _).alloc (Nat.le_refl _) (.cells #[.string p.name, .int .i64 p.day, .int .i64 p.min] 43))) hg9 (fun q hq => by have := (hrow q hq).1; omega))
        have HB6n := Lib.hid ((HB5n.out.alloc _).grown hg9 (fun e => HN1.out e.symm))
        have HN6n := Lib.hid (show (Value.slice A9 (L.length + 1) c9).ownBlock ≠ some (w.heap.size + 1) from fun h => by rcases hor9 with e | e; (· exact HN1.out (e.symm.trans h)); (· have e2 := e.symm.trans h; have hl := HB5n.out.lt; simp at e2; omega))
        have Ho6 := Lib.hid ho9
        clear ho9 hg9 hor9 hrow
        go_roundw
        case rel => exact ⟨L ++ [p], A9, c9, k + 1, by rw [List.length_append]; rfl, by go_num, by omega, by simp; omega, promiseFit_app Hf.out (by rw [HP.out]; exact drawNames_fit hk8), by rw [List.length_append, promiseRow_append]; exact Ho6.out, Hs6.out, HB6n.out, by rw [List.length_append]; exact HN6n.out, Hg6.out⟩
        case measure => simp [intOf]; omega
      · have ux : ((x : Int) == 0) = false := by simp; omega
        clear hx0
        by_cases hm : m = 8
        · subst hm
          go_wp2_with fail
          refine (next_any _ base g A n c 3 Hs4.out).mono ?_
          rintro e w7 ⟨y, rfl, hx, hs, hg⟩
          have hy : y < 3 := by omega
          clear hx
          have Hs7 := Lib.hid hs
          have Hg7 := Lib.hid (gb_trans Hg4.out hg)
          have Ho7 := Lib.hid (Ho4.out.kept hg (.inr NG.out))
          have HB7n := Lib.hid (HB4n.out.grown hg (fun e => by injection e; have := HLn.out; omega))
          have hsz7 := Hg7.out.size
          clear hs hg
          by_cases hy0 : 0 < y
          · skip
            have cN : w7.cell? ⟨w.heap.size + 1, k, none⟩ = some (.string (strsAt drawNames k)) := by rw [HB7n.out.cell k]; exact names_at hk8
            have j0 : (0 : Int) ≤ (k : Int) := Int.natCast_nonneg _
            have j1 : (k : Int) < 8 := by omega
            go_wp2_with fail
            refine (good_any _ base g A n c _ Hs7.out).mono ?_
            rintro e w8 ⟨p, rfl, hpn, hs, hg⟩
            have HP := Lib.hid hpn
            clear hpn
            have Hs8 := Lib.hid hs
            have Hg8 := Lib.hid (gb_trans Hg7.out hg)
            have Ho8 := Lib.hid (Ho7.out.kept hg (.inr NG.out))
            have HB8n := Lib.hid (HB7n.out.grown hg (fun e => by injection e; have := HLn.out; omega))
            have hsz8 := Hg8.out.size
            clear hs hg
            clear cN
            go_wp2_with (at_builtin; refine wpList_append_sl _ rfl (.tmp 32) (.tmp 39) _ rfl w.heap.size 43 i0 _ 3 32 Try.underlying25 hi hz0 hz1 hz2 rfl (by omega) _ L.length (promiseRow L) rfl (Ho8.out.alloc _) (some ⟨w8.heap.size, 0, none⟩) 1 1 (promiseCells p) rfl (Rd.of_block (cs := #[.string p.name, .int .i64 p.day, .int .i64 p.min]) (heap_alloc_new _ _) rfl) (promiseCells_one _) (by unfold maxLen; omega) (by omega) (by simp; omega) ?_; intro A9 c9 w9 ho9 hg9 hor9)
            have hrow : (∀ q, (Value.slice Ao L.length co).ownBlock = some q → w.heap.size ≤ q ∧ q < w8.heap.size) := (fun q hq => World.ownsRow.lt Ho8.out q hq)
            have Hs9 := Lib.hid ((Hs8.out.below ((Below.refl _ _).alloc (Nat.le_refl _) (.cells #[.string p.name, .int .i64 p.day, .int .i64 p.min] 43))).other hg9 (fun q hq => by have := (hrow q hq).1; omega))
            have Hg9 := Lib.hid (gb_other (gb_below Hg8.out ((Below.refl _ _).alloc (Nat.le_refl _) (.cells #[.string p.name, .int .i64 p.day, .int .i64 p.min] 43))) hg9 (fun q hq => by have := (hrow q hq).1; omega))
            have HB9n := Lib.hid ((HB8n.out.alloc _).grown hg9 (fun e => HN1.out e.symm))
            have HN9n := Lib.hid (show (Value.slice A9 (L.length + 1) c9).ownBlock ≠ some (w.heap.size + 1) from fun h => by rcases hor9 with e | e; (· exact HN1.out (e.symm.trans h)); (· have e2 := e.symm.trans h; have hl := HB8n.out.lt; simp at e2; omega))
            have Ho9 := Lib.hid ho9
            clear ho9 hg9 hor9 hrow
            go_roundw
            case rel => exact ⟨L ++ [p], A9, c9, k + 1, by rw [List.length_append]; rfl, by go_num, by omega, by simp; omega, promiseFit_app Hf.out (by rw [HP.out]; exact drawNames_fit hk8), by rw [List.length_append, promiseRow_append]; exact Ho9.out, Hs9.out, HB9n.out, by rw [List.length_append]; exact HN9n.out, Hg9.out⟩
            case measure => simp [intOf]; omega
          · skip
            go_wp2
            go_roundw
            case rel => exact ⟨L, Ao, co, k + 1, rfl, by go_num, by omega, by omega, Hf.out, Ho7.out, Hs7.out, HB7n.out, HN1.out, Hg7.out⟩
            case measure => simp [intOf]; omega
        · have um : (m == 8) = false := by simp; omega
          clear hm
          go_wp2
          go_roundw
          case rel => exact ⟨L, Ao, co, k + 1, rfl, by go_num, by omega, by omega, Hf.out, Ho4.out, Hs4.out, HB4n.out, HN1.out, Hg4.out⟩
          case measure => simp [intOf]; omega
    · have hk9 : k = 8 := by omega
      subst hk9
      clear hk8
      go_wp2_with fail
      refine (next_any _ base g A n c 40 Hs1.out).mono ?_
      rintro e w10 ⟨z, rfl, hx, hs, hg⟩
      clear hx
      have Hs10 := Lib.hid hs
      have Hg10 := Lib.hid (gb_trans Hg1.out hg)
      have Ho10 := Lib.hid (Ho1.out.kept hg (.inr NG.out))
      have HB10n := Lib.hid (HB1.out.grown hg (fun e => by injection e; have := HLn.out; omega))
      have hsz10 := Hg10.out.size
      clear hs hg
      by_cases hq0 : z = 0
      · subst hq0
        have KT := Lib.hid (Blk.new w10 9 #[.string ⟨#[97, 100, 97]⟩, .string ⟨#[90]⟩])
        go_wp2_with fail
        refine (next_any _ base g A n c 2 (Hs10.out.below ((Below.refl _ _).alloc (Nat.le_refl _) (.cells #[.string ⟨#[97, 100, 97]⟩, .string ⟨#[90]⟩] 9)))).mono ?_
        rintro e w11 ⟨y, rfl, hx, hs, hg⟩
        have hy : y < 2 := by omega
        clear hx
        have KT2 := Lib.hid (KT.out.grown hg (fun e => by injection e; have := Hs10.out.lt; omega))
        have Hs11 := Lib.hid hs
        have Hg11 := Lib.hid (gb_trans (gb_below Hg10.out ((Below.refl _ _).alloc (Nat.le_refl _) (.cells #[.string ⟨#[97, 100, 97]⟩, .string ⟨#[90]⟩] 9))) hg)
        have Ho11 := Lib.hid ((Ho10.out.alloc _).kept hg (.inr NG.out))
        have HB11n := Lib.hid ((HB10n.out.alloc _).grown hg (fun e => by injection e; have := HLn.out; omega))
        have hsz11 := Hg11.out.size
        clear hs hg
        obtain ⟨nm, hnm, cT⟩ : ∃ nm : ByteArray, nm.size ≤ maxLen ∧ w11.cell? ⟨w10.heap.size, y, none⟩ = some (.string nm) := by
          rw [KT2.out.cell y]
          match y, hy with
          | 0, _ => exact ⟨_, by simp [ByteArray.size, maxLen], rfl⟩
          | 1, _ => exact ⟨_, by simp [ByteArray.size, maxLen], rfl⟩
        have j0 : (0 : Int) ≤ (y : Int) := Int.natCast_nonneg _
        have j1 : (y : Int) < 2 := by omega
        go_wp2_with fail
        refine (good_any _ base g A n c _ Hs11.out).mono ?_
        rintro e w12 ⟨p, rfl, hpn, hs, hg⟩
        have HP := Lib.hid hpn
        clear hpn
        have Hs12 := Lib.hid hs
        have Hg12 := Lib.hid (gb_trans Hg11.out hg)
        have Ho12 := Lib.hid (Ho11.out.kept hg (.inr NG.out))
        have HB12n := Lib.hid (HB11n.out.grown hg (fun e => by injection e; have := HLn.out; omega))
        have hsz12 := Hg12.out.size
        clear hs hg
        clear cT
        go_wp2_with (at_builtin; refine wpList_append_sl _ rfl (.tmp 45) (.tmp 53) _ rfl w.heap.size 43 i0 _ 3 32 Try.underlying25 hi hz0 hz1 hz2 rfl (by omega) _ L.length (promiseRow L) rfl (Ho12.out.alloc _) (some ⟨w12.heap.size, 0, none⟩) 1 1 (promiseCells p) rfl (Rd.of_block (cs := #[.string p.name, .int .i64 p.day, .int .i64 p.min]) (heap_alloc_new _ _) rfl) (promiseCells_one _) (by unfold maxLen; omega) (by omega) (by simp; omega) ?_; intro A9 c9 w13 ho9 hg9 hor9)
        have hrow : (∀ q, (Value.slice Ao L.length co).ownBlock = some q → w.heap.size ≤ q ∧ q < w12.heap.size) := (fun q hq => World.ownsRow.lt Ho12.out q hq)
        have Hs13 := Lib.hid ((Hs12.out.below ((Below.refl _ _).alloc (Nat.le_refl _) (.cells #[.string p.name, .int .i64 p.day, .int .i64 p.min] 43))).other hg9 (fun q hq => by have := (hrow q hq).1; omega))
        have Hg13 := Lib.hid (gb_other (gb_below Hg12.out ((Below.refl _ _).alloc (Nat.le_refl _) (.cells #[.string p.name, .int .i64 p.day, .int .i64 p.min] 43))) hg9 (fun q hq => by have := (hrow q hq).1; omega))
        have HB13n := Lib.hid ((HB12n.out.alloc _).grown hg9 (fun e => HN1.out e.symm))
        have HN13n := Lib.hid (show (Value.slice A9 (L.length + 1) c9).ownBlock ≠ some (w.heap.size + 1) from fun h => by rcases hor9 with e | e; (· exact HN1.out (e.symm.trans h)); (· have e2 := e.symm.trans h; have hl := HB12n.out.lt; simp at e2; omega))
        have Ho13 := Lib.hid ho9
        clear ho9 hg9 hor9 hrow
        go_wp2
        go_ret
        exact ⟨L ++ [p], .slice A9 (L.length + 1) c9, rfl, by rw [List.length_append, promiseRow_append]; exact Ho13.out, promiseFit_app Hf.out (by rw [HP.out]; exact hnm), by simp; omega, Hs13.out, Hg13.out⟩
      · skip
        by_cases hq1 : z = 1
        · subst hq1
          clear hq0
          go_wp2
          go_loopw [3, 7] (fun o i wr => ∃ (L : List Promise) (Ao : Option Addr) (co k : Nat), o = .slice Ao L.length co ∧ i = .int .i64 k ∧ k ≤ L.length ∧ L.length ≤ 41 ∧ promiseFit L ∧ wr.ownsRow w.heap.size 43 3 (.slice Ao L.length co) L.length (promiseRow L) ∧ Src wr base g A n c ∧ w.grownBy wr (some g)) (fun o _ _ => 41 - vLenD o)
          case atStart => exact ⟨L, Ao, co, 0, rfl, rfl, Nat.zero_le _, by omega, Hf.out, Ho10.out, Hs10.out, Hg10.out⟩
          case round =>
            rename World => wo
            clear Ho10 Hs10 Hg10 Hf NG HN1 HB1 Ho1 Hs1 Hg1
            obtain ⟨L, Ao, co, k, rfl, rfl, hkL, hL41, hf, ho, hsr, hg⟩ := hrel
            have Hs1 := Lib.hid hsr
            have Hg1 := Lib.hid hg
            have Ho1 := Lib.hid ho
            have Hf := Lib.hid hf
            have NG := Lib.hid (show (Value.slice Ao L.length co).ownBlock ≠ some g from fun h => by have := (World.ownsRow.lt ho g h).1; omega)
            have hsz1 := hg.size
            clear hsr hg ho hf
            go_wp2_with fail
            refine (next_any _ base g A n c 2 Hs1.out).mono ?_
            rintro e w14 ⟨y, rfl, hx, hs, hg⟩
            have hy : y < 2 := by omega
            clear hx
            have Hs14 := Lib.hid hs
            have Hg14 := Lib.hid (gb_trans Hg1.out hg)
            have Ho14 := Lib.hid (Ho1.out.kept hg (.inr NG.out))
            have hsz14 := Hg14.out.size
            clear hs hg
            have xx := IntWalk.i64_in (40 + (y : Int)) (by omega)
            by_cases hlt : (L.length : Int) < 40 + (y : Int)
            · skip
              have hk40 : k ≤ 40 := by omega
              have hk40 : k ≤ 40 := by omega
              obtain ⟨a, ha⟩ : ∃ a, a = k / 5 := ⟨_, rfl⟩
              obtain ⟨b, hb⟩ : ∃ b, b = k % 5 := ⟨_, rfl⟩
              have a8 : a ≤ 8 := by omega
              have b4 : b ≤ 4 := by omega
              have r1 : (k : Int).tdiv 5 = (a : Int) := by rw [Int.tdiv_eq_ediv_of_nonneg (by omega)]; omega
              have r2 : (k : Int).tmod 5 = (b : Int) := by rw [Int.tmod_eq_emod_of_nonneg (by omega)]; omega
              have r3 : (k : Int) / 5 = (a : Int) := by omega
              have r4 : (k : Int) % 5 = (b : Int) := by omega
              have r5 := IntWalk.i64_in (a : Int) (by omega)
              have r6 := IntWalk.i64_in (b : Int) (by omega)
              have r7 := IntWalk.i64_in ((a : Int) + 1) (by omega)
              have r8 := IntWalk.i64_in ((b : Int) + 1) (by omega)
              have s1 : (0 : Int) ≤ (a : Int) := by omega
              have s2 : (0 : Int) ≤ (b : Int) := by omega
              have s3 : (a : Int) ≤ (a : Int) + 1 := by omega
              have s4 : (b : Int) ≤ (b : Int) + 1 := by omega
              have s5 : (0 : Int) ≤ (a : Int) + 1 := by omega
              have s6 : (0 : Int) ≤ (b : Int) + 1 := by omega
              have s7 : (a : Int) + 1 ≤ 10 := by omega
              have s8 : (b : Int) + 1 ≤ 5 := by omega
              have z1 : ¬ 9223372036854775807 < 1 + (min (a + 1) 10 - a) := by omega
              have z2 : ¬ 9223372036854775807 < 1 + (min (a + 1) 10 - a) + (min (b + 1) 5 - b) := by omega
              have hnx : (({ data := #[120] } : ByteArray) ++ ({ data := #[97, 98, 99, 100, 101, 102, 103, 104, 105, 106] } : ByteArray).extract a (a + 1) ++ ({ data := #[97, 98, 99, 100, 101] } : ByteArray).extract b (b + 1)).size ≤ maxLen := nx_size _ _ _ _ _ _ _ (by simp [ByteArray.size])
              have z3 : ¬ 9223372036854775807 < 1 + (min (a + 1) 10 - a) + 1 := by omega
              have Hnx := Lib.hid hnx
              clear hnx
              clear ha hb
              go_wp2_with fail
              refine wp_region_held_drew (S := (fun _ => True)) (by kernel_rfl) ?_ (fun hHeld => ?_)
              · (try dsimp only); first | done | trivial
              refine wpAnyH_take (i := 0) (v := ?_) rfl (by kernel_rfl) (by kernel_rfl) (by kernel_rfl) (fun _ _ _ h => h) (Or.inl ⟨by rfl, ?_⟩) (by assumption) ?_
              rotate_left
              · (intro w hSw; (try dsimp only at hSw); go_simp) <;> with_reducible rfl
              try simp only [Act.put, List.setIfInBounds_toArray, List.set_cons_zero, List.set_cons_succ, List.getElem_toArray, List.getElem_cons_succ, List.getElem_cons_zero]
              refine wpAnyH_take (i := 1) (v := ?_) rfl (by kernel_rfl) (by kernel_rfl) (by kernel_rfl) (fun _ _ _ h => h) (Or.inl ⟨by rfl, ?_⟩) (by assumption) ?_
              rotate_left
              · (intro w hSw; (try dsimp only at hSw); go_simp) <;> with_reducible rfl
              try simp only [Act.put, List.setIfInBounds_toArray, List.set_cons_zero, List.set_cons_succ, List.getElem_toArray, List.getElem_cons_succ, List.getElem_cons_zero]
              refine wpAnyH_take (i := 2) (v := ?_) rfl (by kernel_rfl) (by kernel_rfl) (by kernel_rfl) (fun _ _ _ h => h) (Or.inl ⟨by rfl, ?_⟩) (by assumption) ?_
              rotate_left
              · (intro w hSw; (try dsimp only at hSw); go_simp) <;> with_reducible rfl
              try simp only [Act.put, List.setIfInBounds_toArray, List.set_cons_zero, List.set_cons_succ, List.getElem_toArray, List.getElem_cons_succ, List.getElem_cons_zero]
              refine wpAnyH_take (i := 3) (v := ?_) rfl (by kernel_rfl) (by kernel_rfl) (by kernel_rfl) (fun _ _ _ h => h) (Or.inl ⟨by rfl, ?_⟩) (by assumption) ?_
              rotate_left
              · (intro w hSw; (try dsimp only at hSw); go_simp) <;> with_reducible rfl
              try simp only [Act.put, List.setIfInBounds_toArray, List.set_cons_zero, List.set_cons_succ, List.getElem_toArray, List.getElem_cons_succ, List.getElem_cons_zero]
              refine wpAnyH_take (i := 4) (v := ?_) rfl (by kernel_rfl) (by kernel_rfl) (by kernel_rfl) (fun _ _ _ h => h) (Or.inl ⟨by rfl, ?_⟩) (by assumption) ?_
              rotate_left
              · (intro w hSw; (try dsimp only at hSw); go_simp) <;> with_reducible rfl
              try simp only [Act.put, List.setIfInBounds_toArray, List.set_cons_zero, List.set_cons_succ, List.getElem_toArray, List.getElem_cons_succ, List.getElem_cons_zero]
              refine wpAnyH_take (i := 5) (v := ?_) rfl (by kernel_rfl) (by kernel_rfl) (by kernel_rfl) (fun _ _ _ h => h) (Or.inl ⟨by rfl, ?_⟩) (by assumption) ?_
              rotate_left
              · (intro w hSw; (try dsimp only at hSw); go_simp) <;> with_reducible rfl
              try simp only [Act.put, List.setIfInBounds_toArray, List.set_cons_zero, List.set_cons_succ, List.getElem_toArray, List.getElem_cons_succ, List.getElem_cons_zero]
              refine wpAnyH_take (i := 6) (v := ?_) rfl (by kernel_rfl) (by kernel_rfl) (by kernel_rfl) (fun _ _ _ h => h) (Or.inl ⟨by rfl, ?_⟩) (by assumption) ?_
              rotate_left
              · (intro w hSw; (try dsimp only at hSw); go_simp) <;> with_reducible rfl
              try simp only [Act.put, List.setIfInBounds_toArray, List.set_cons_zero, List.set_cons_succ, List.getElem_toArray, List.getElem_cons_succ, List.getElem_cons_zero]
              refine wpAnyH_take (i := 7) (v := ?_) rfl (by kernel_rfl) (by kernel_rfl) (by kernel_rfl) (fun _ _ _ h => h) (Or.inl ⟨by rfl, ?_⟩) (by assumption) ?_
              rotate_left
              · (intro w hSw; (try dsimp only at hSw); go_simp) <;> with_reducible rfl
              try simp only [Act.put, List.setIfInBounds_toArray, List.set_cons_zero, List.set_cons_succ, List.getElem_toArray, List.getElem_cons_succ, List.getElem_cons_zero]
              refine wpAnyH_take (i := 8) (v := ?_) rfl (by kernel_rfl) (by kernel_rfl) (by kernel_rfl) (fun _ _ _ h => h) (Or.inl ⟨by rfl, ?_⟩) (by assumption) ?_
              rotate_left
              · (intro w hSw; (try dsimp only at hSw); go_simp) <;> with_reducible rfl
              try simp only [Act.put, List.setIfInBounds_toArray, List.set_cons_zero, List.set_cons_succ, List.getElem_toArray, List.getElem_cons_succ, List.getElem_cons_zero]
              refine wpAnyH_take (i := 9) (v := ?_) rfl (by kernel_rfl) (by kernel_rfl) (by kernel_rfl) (fun _ _ _ h => h) (Or.inl ⟨by rfl, ?_⟩) (by assumption) ?_
              rotate_left
              · (intro w hSw; (try dsimp only at hSw); go_simp) <;> with_reducible rfl
              try simp only [Act.put, List.setIfInBounds_toArray, List.set_cons_zero, List.set_cons_succ, List.getElem_toArray, List.getElem_cons_succ, List.getElem_cons_zero]
              refine wpAnyH_take (i := 10) (v := ?_) rfl (by kernel_rfl) (by kernel_rfl) (by kernel_rfl) (fun _ _ _ h => h) (Or.inl ⟨by rfl, ?_⟩) (by assumption) ?_
              rotate_left
              · (intro w hSw; (try dsimp only at hSw); go_simp) <;> with_reducible rfl
              try simp only [Act.put, List.setIfInBounds_toArray, List.set_cons_zero, List.set_cons_succ, List.getElem_toArray, List.getElem_cons_succ, List.getElem_cons_zero]
              refine wpAnyH_take (i := 11) (v := ?_) rfl (by kernel_rfl) (by kernel_rfl) (by kernel_rfl) (fun _ _ _ h => h) (Or.inl ⟨by rfl, ?_⟩) (by assumption) ?_
              rotate_left
              · (intro w hSw; (try dsimp only at hSw); go_simp) <;> with_reducible rfl
              try simp only [Act.put, List.setIfInBounds_toArray, List.set_cons_zero, List.set_cons_succ, List.getElem_toArray, List.getElem_cons_succ, List.getElem_cons_zero]
              refine wpAnyH_take (i := 12) (v := ?_) rfl (by kernel_rfl) (by kernel_rfl) (by kernel_rfl) (fun _ _ _ h => h) (Or.inl ⟨by rfl, ?_⟩) (by assumption) ?_
              rotate_left
              · (intro w hSw; (try dsimp only at hSw); go_simp) <;> with_reducible rfl
              try simp only [Act.put, List.setIfInBounds_toArray, List.set_cons_zero, List.set_cons_succ, List.getElem_toArray, List.getElem_cons_succ, List.getElem_cons_zero]
              refine wpAnyH_take (i := 13) (v := ?_) rfl (by kernel_rfl) (by kernel_rfl) (by kernel_rfl) (fun _ _ _ h => h) (Or.inl ⟨by rfl, ?_⟩) (by assumption) ?_
              rotate_left
              · (intro w hSw; (try dsimp only at hSw); go_simp) <;> with_reducible rfl
              try simp only [Act.put, List.setIfInBounds_toArray, List.set_cons_zero, List.set_cons_succ, List.getElem_toArray, List.getElem_cons_succ, List.getElem_cons_zero]
              refine wpAnyH_take (i := 14) (v := ?_) rfl (by kernel_rfl) (by kernel_rfl) (by kernel_rfl) (fun _ _ _ h => h) (Or.inl ⟨by rfl, ?_⟩) (by assumption) ?_
              rotate_left
              · (intro w hSw; (try dsimp only at hSw); go_simp) <;> with_reducible rfl
              try simp only [Act.put, List.setIfInBounds_toArray, List.set_cons_zero, List.set_cons_succ, List.getElem_toArray, List.getElem_cons_succ, List.getElem_cons_zero]
              refine wpAnyH_take (i := 15) (v := ?_) rfl (by kernel_rfl) (by kernel_rfl) (by kernel_rfl) (fun _ _ _ h => h) (Or.inl ⟨by rfl, ?_⟩) (by assumption) ?_
              rotate_left
              · (intro w hSw; (try dsimp only at hSw); go_simp) <;> with_reducible rfl
              try simp only [Act.put, List.setIfInBounds_toArray, List.set_cons_zero, List.set_cons_succ, List.getElem_toArray, List.getElem_cons_succ, List.getElem_cons_zero]
              refine wpAnyH_ready (rs := [16]) (by kernel_rfl) (by simp) ?_
              refine AllReadyH.cons rfl (fun K hK => ?_) AllReadyH.nil
              try dsimp only [List.getElem_toArray, List.getElem_cons_succ, List.getElem_cons_zero]
              go_simp
              refine hK.out _ _ ?_ (fun hHeld => ?_)
              · (try dsimp only); first | done | trivial
              clear hK K
              try simp only [Act.put, List.setIfInBounds_toArray, List.set_cons_zero, List.set_cons_succ, List.getElem_toArray, List.getElem_cons_succ, List.getElem_cons_zero]
              refine wpAnyH_ready (rs := [17]) (by kernel_rfl) (by simp) ?_
              refine AllReadyH.cons rfl (fun K hK => ?_) AllReadyH.nil
              (refine step_append_sl _ (by rfl) (.tmp 65) (.tmp 81) _ (by rfl) w.heap.size 43 i0 _ 3 32 Try.underlying25 hi hz0 hz1 hz2 rfl (by omega) _ L.length (promiseRow L) (by rfl) ((draw_own Ho14.out _).alloc _) (some ⟨w14.heap.size, 0, none⟩) 1 1 (promiseCells ⟨(({ data := #[120] } : ByteArray) ++ ({ data := #[97, 98, 99, 100, 101, 102, 103, 104, 105, 106] } : ByteArray).extract a (a + 1) ++ ({ data := #[97, 98, 99, 100, 101] } : ByteArray).extract b (b + 1)), 300, 100⟩) (by rfl) (Rd.of_block (cs := #[.string (({ data := #[120] } : ByteArray) ++ ({ data := #[97, 98, 99, 100, 101, 102, 103, 104, 105, 106] } : ByteArray).extract a (a + 1) ++ ({ data := #[97, 98, 99, 100, 101] } : ByteArray).extract b (b + 1)), .int .i64 300, .int .i64 100]) (heap_alloc_new _ _) rfl) (promiseCells_one _) (by unfold maxLen; omega) (by omega) (by simp; omega) ?_; intro A9 c9 w9 ho9 hg9 hor9)
              refine hK.out _ _ ?_ (fun hHeld => ?_)
              · (try dsimp only); first | done | trivial
              clear hK K
              try simp only [Act.put, List.setIfInBounds_toArray, List.set_cons_zero, List.set_cons_succ, List.getElem_toArray, List.getElem_cons_succ, List.getElem_cons_zero]
              refine wpAnyH_take (i := 18) (v := ?_) rfl (by kernel_rfl) (by kernel_rfl) (by kernel_rfl) (fun _ _ _ h => h) (Or.inl ⟨by rfl, ?_⟩) (by assumption) ?_
              rotate_left
              · (intro w hSw; (try dsimp only at hSw); go_simp) <;> with_reducible rfl
              try simp only [Act.put, List.setIfInBounds_toArray, List.set_cons_zero, List.set_cons_succ, List.getElem_toArray, List.getElem_cons_succ, List.getElem_cons_zero]
              refine wpAnyH_done (by kernel_rfl) ?_ _
              have hbA : Below w14.heap.size w14 ((w14.alloc (.cells #[.string (({ data := #[120] } : ByteArray) ++ ({ data := #[97, 98, 99, 100, 101, 102, 103, 104, 105, 106] } : ByteArray).extract a (a + 1) ++ ({ data := #[97, 98, 99, 100, 101] } : ByteArray).extract b (b + 1)), .int .i64 300, .int .i64 100] 43)).drew) := ((Below.refl _ _).alloc (Nat.le_refl _) _).drew
              have hrow : (∀ q, (Value.slice Ao L.length co).ownBlock = some q → w.heap.size ≤ q ∧ q < w14.heap.size) := (fun q hq => World.ownsRow.lt Ho14.out q hq)
              have Hs9 := Lib.hid ((Hs14.out.below hbA).other hg9 (fun q hq => by have := (hrow q hq).1; omega))
              have Hg9 := Lib.hid (gb_other (gb_below Hg14.out hbA) hg9 (fun q hq => by have := (hrow q hq).1; omega))
              have Ho9 := Lib.hid ho9
              clear ho9 hg9 hor9 hrow hbA r1 r2 r3 r4 r5 r6 r7 r8 s1 s2 s3 s4 s5 s6 s7 s8 z1 z2 z3
              go_wp2
              go_roundw
              case rel => exact ⟨L ++ [⟨(({ data := #[120] } : ByteArray) ++ ({ data := #[97, 98, 99, 100, 101, 102, 103, 104, 105, 106] } : ByteArray).extract a (a + 1) ++ ({ data := #[97, 98, 99, 100, 101] } : ByteArray).extract b (b + 1)), 300, 100⟩], A9, c9, k + 1, by rw [List.length_append]; rfl, by go_num, by simp; omega, by simp; omega, promiseFit_app Hf.out Hnx.out, by rw [List.length_append, promiseRow_append]; exact Ho9.out, Hs9.out, Hg9.out⟩
              case measure => simp [vLenD]; omega
            · go_wp2
              go_ret
              exact ⟨L, _, rfl, Ho14.out, Hf.out, by omega, Hs14.out, Hg14.out⟩
        · by_cases hq2 : z = 2
          · subst hq2
            clear hq0 hq1
            go_wp2_with fail
            refine (pick_any _ base g A n c [0, 1, 1000, 1001] _ (Hs10.out.below ((Below.refl _ _).alloc (Nat.le_refl _) (.cells #[.int .i64 0, .int .i64 1, .int .i64 1000, .int .i64 1001] 2))) (by have := sl_laid w10 [0, 1, 1000, 1001] (by simp [maxLen]); simpa [intsRow] using this) (by simp) (by simp) (fun h => by have hg0 := Hs10.out.lt; have : w10.heap.size = g := (by simpa [Value.ownBlock] using h); first | omega | (simp at this; omega))).mono ?_
            rintro e w15 ⟨p1, hmp1, rfl, hs, hg⟩
            have Hs15 := Lib.hid hs
            have Hg15 := Lib.hid (gb_trans (gb_below Hg10.out ((Below.refl _ _).alloc (Nat.le_refl _) (.cells #[.int .i64 0, .int .i64 1, .int .i64 1000, .int .i64 1001] 2))) hg)
            have Ho15 := Lib.hid ((Ho10.out.alloc _).kept hg (.inr NG.out))
            have HB15n := Lib.hid ((HB10n.out.alloc _).grown hg (fun e => by injection e; have := HLn.out; omega))
            have hsz15 := Hg15.out.size
            clear hs hg
            clear hmp1
            go_wp2_with fail
            refine (pick_any _ base g A n c [0, 1, 2000, 2001] _ (Hs15.out.below ((Below.refl _ _).alloc (Nat.le_refl _) (.cells #[.int .i64 0, .int .i64 1, .int .i64 2000, .int .i64 2001] 2))) (by have := sl_laid w15 [0, 1, 2000, 2001] (by simp [maxLen]); simpa [intsRow] using this) (by simp) (by simp) (fun h => by have hg0 := Hs15.out.lt; have : w15.heap.size = g := (by simpa [Value.ownBlock] using h); first | omega | (simp at this; omega))).mono ?_
            rintro e w16 ⟨p2, hmp2, rfl, hs, hg⟩
            have Hs16 := Lib.hid hs
            have Hg16 := Lib.hid (gb_trans (gb_below Hg15.out ((Below.refl _ _).alloc (Nat.le_refl _) (.cells #[.int .i64 0, .int .i64 1, .int .i64 2000, .int .i64 2001] 2))) hg)
            have Ho16 := Lib.hid ((Ho15.out.alloc _).kept hg (.inr NG.out))
            have HB16n := Lib.hid ((HB15n.out.alloc _).grown hg (fun e => by injection e; have := HLn.out; omega))
            have hsz16 := Hg16.out.size
            clear hs hg
            clear hmp2
            go_wp2_with (at_builtin; refine wpList_append_sl _ rfl (.tmp 85) (.tmp 93) _ rfl w.heap.size 43 i0 _ 3 32 Try.underlying25 hi hz0 hz1 hz2 rfl (by omega) _ L.length (promiseRow L) rfl (Ho16.out.alloc _) (some ⟨w16.heap.size, 0, none⟩) 1 1 (promiseCells ⟨⟨#[105, 118, 121]⟩, p1, p2⟩) rfl (Rd.of_block (cs := #[.string ⟨#[105, 118, 121]⟩, .int .i64 p1, .int .i64 p2]) (heap_alloc_new _ _) rfl) (promiseCells_one _) (by unfold maxLen; omega) (by omega) (by simp; omega) ?_; intro A9 c9 w17 ho9 hg9 hor9)
            have hrow : (∀ q, (Value.slice Ao L.length co).ownBlock = some q → w.heap.size ≤ q ∧ q < w16.heap.size) := (fun q hq => World.ownsRow.lt Ho16.out q hq)
            have Hs17 := Lib.hid ((Hs16.out.below ((Below.refl _ _).alloc (Nat.le_refl _) (.cells #[.string ⟨#[105, 118, 121]⟩, .int .i64 p1, .int .i64 p2] 43))).other hg9 (fun q hq => by have := (hrow q hq).1; omega))
            have Hg17 := Lib.hid (gb_other (gb_below Hg16.out ((Below.refl _ _).alloc (Nat.le_refl _) (.cells #[.string ⟨#[105, 118, 121]⟩, .int .i64 p1, .int .i64 p2] 43))) hg9 (fun q hq => by have := (hrow q hq).1; omega))
            have HB17n := Lib.hid ((HB16n.out.alloc _).grown hg9 (fun e => HN1.out e.symm))
            have HN17n := Lib.hid (show (Value.slice A9 (L.length + 1) c9).ownBlock ≠ some (w.heap.size + 1) from fun h => by rcases hor9 with e | e; (· exact HN1.out (e.symm.trans h)); (· have e2 := e.symm.trans h; have hl := HB16n.out.lt; simp at e2; omega))
            have Ho17 := Lib.hid ho9
            clear ho9 hg9 hor9 hrow
            go_wp2
            go_ret
            exact ⟨L ++ [⟨⟨#[105, 118, 121]⟩, p1, p2⟩], .slice A9 (L.length + 1) c9, rfl, by rw [List.length_append, promiseRow_append]; exact Ho17.out, promiseFit_app Hf.out (by simp [ByteArray.size, maxLen]), by simp; omega, Hs17.out, Hg17.out⟩
          · have u0 : ((z : Int) == 0) = false := by simp; omega
            have u1 : ((z : Int) == 1) = false := by simp; omega
            have u2 : ((z : Int) == 2) = false := by simp; omega
            clear hq0 hq1 hq2
            go_wp2
            go_ret
            exact ⟨L, _, rfl, Ho10.out, Hf.out, by omega, Hs10.out, Hg10.out⟩

end Go.Proofs.Ytgafjchbfbpmmaa
