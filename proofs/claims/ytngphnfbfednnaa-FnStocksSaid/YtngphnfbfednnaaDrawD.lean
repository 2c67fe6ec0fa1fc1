/- The walk of l24Draw: some bins are drawn. Printed by gen_drawb.py. -/
import Derived.Test.YtngphnfbfednnaaDrawC
namespace Go.Proofs.Ytngphnfbfednnaa
open Go.RowKit

def drawNames : List ByteArray := [⟨#[97, 110, 99, 104, 111, 114]⟩, ⟨#[98, 111, 108, 116]⟩, ⟨#[99, 114, 97, 110, 107]⟩, ⟨#[102, 111, 114, 107]⟩, ⟨#[102, 114, 97, 109, 101]⟩, ⟨#[104, 101, 97, 100, 115, 101, 116]⟩, ⟨#[112, 111, 115, 116]⟩, ⟨#[115, 97, 100, 100, 108, 101]⟩]
theorem drawNames_fit {k : Nat} (h : k < 8) : (strsAt drawNames k).size ≤ maxLen := by
  match k, h with
  | 0, _ => simp [strsAt, drawNames, ByteArray.size, maxLen]
  | 1, _ => simp [strsAt, drawNames, ByteArray.size, maxLen]
  | 2, _ => simp [strsAt, drawNames, ByteArray.size, maxLen]
  | 3, _ => simp [strsAt, drawNames, ByteArray.size, maxLen]
  | 4, _ => simp [strsAt, drawNames, ByteArray.size, maxLen]
  | 5, _ => simp [strsAt, drawNames, ByteArray.size, maxLen]
  | 6, _ => simp [strsAt, drawNames, ByteArray.size, maxLen]
  | 7, _ => simp [strsAt, drawNames, ByteArray.size, maxLen]
  | k + 8, h => omega
theorem names_at {k : Nat} (h : k < 8) : (#[.string ⟨#[97, 110, 99, 104, 111, 114]⟩, .string ⟨#[98, 111, 108, 116]⟩, .string ⟨#[99, 114, 97, 110, 107]⟩, .string ⟨#[102, 111, 114, 107]⟩, .string ⟨#[102, 114, 97, 109, 101]⟩, .string ⟨#[104, 101, 97, 100, 115, 101, 116]⟩, .string ⟨#[112, 111, 115, 116]⟩, .string ⟨#[115, 97, 100, 100, 108, 101]⟩] : Array Value)[k]? = some (.string (strsAt drawNames k)) := by
  match k, h with
  | 0, _ => rfl
  | 1, _ => rfl
  | 2, _ => rfl
  | 3, _ => rfl
  | 4, _ => rfl
  | 5, _ => rfl
  | 6, _ => rfl
  | 7, _ => rfl
  | k + 8, h => omega
theorem nx_size (x y : ByteArray) (a b : Nat) (h : x.size + y.size ≤ 100) : (x ++ y.extract a b).size ≤ maxLen := by
  rw [ByteArray.size_append, ByteArray.size_extract]; unfold maxLen; omega
theorem l16Names_any (w : World) : Calls Try.prog 80 #[] w fun e w' => e = .returned (.slice (some ⟨w.heap.size, 0, none⟩) 8 8) ∧ w' = w.alloc (.cells #[.string ⟨#[97, 110, 99, 104, 111, 114]⟩, .string ⟨#[98, 111, 108, 116]⟩, .string ⟨#[99, 114, 97, 110, 107]⟩, .string ⟨#[102, 111, 114, 107]⟩, .string ⟨#[102, 114, 97, 109, 101]⟩, .string ⟨#[104, 101, 97, 100, 115, 101, 116]⟩, .string ⟨#[112, 111, 115, 116]⟩, .string ⟨#[115, 97, 100, 100, 108, 101]⟩] 9) := by
  go_enter Try.func80, Try.ntmps80
  go_wp2
  go_ret
  exact ⟨rfl, rfl⟩

set_option maxHeartbeats 16000000 in
theorem draw_any (w : World) (base g : Nat) (A : Option Addr) (n c : Nat) (hs : Src w base g A n c) :
    Calls Try.prog 74 #[.pointer (some ⟨g, 0, none⟩)] w (DrawPost 58 5 binRow binFit 21 base g A n c w) := by
  have Hs := Lib.hid hs
  have hgl := hs.lt
  obtain ⟨i0, hi, hz0, hz1, hz2⟩ := info_parts Try.infoBin
  clear hs
  go_enter Try.func74, Try.ntmps74
  go_wp2_with fail
  refine (l16Names_any _).mono ?_
  rintro e w1 ⟨rfl, ew1⟩
  obtain ⟨w3, hw3⟩ : ∃ w3, w3 = (w.alloc (.cells #[] 58)).alloc (.cells #[.string ⟨#[97, 110, 99, 104, 111, 114]⟩, .string ⟨#[98, 111, 108, 116]⟩, .string ⟨#[99, 114, 97, 110, 107]⟩, .string ⟨#[102, 111, 114, 107]⟩, .string ⟨#[102, 114, 97, 109, 101]⟩, .string ⟨#[104, 101, 97, 100, 115, 101, 116]⟩, .string ⟨#[112, 111, 115, 116]⟩, .string ⟨#[115, 97, 100, 100, 108, 101]⟩] 9) := ⟨_, rfl⟩
  have e13 : w1 = w3 := by rw [hw3]; exact ew1
  subst e13
  clear ew1
  have hb3 : Below w.heap.size w w1 := by rw [hw3]; exact ((Below.refl _ _).alloc (Nat.le_refl _) _).alloc (by simp) _
  have Hs3 := Lib.hid (Hs.out.below hb3)
  have Hg3 := Lib.hid (gb_below (gb_refl w (some g)) hb3)
  have HO3 : Hid (w1.ownsRow w.heap.size 58 5 (.slice (some ⟨w.heap.size, 0, none⟩) 0 0) 0 []) := by rw [hw3]; exact Lib.hid ((own_empty w 58 5 (Nat.le_refl _)).alloc _)
  have HBn : Hid (Blk w1 (w.heap.size + 1) 9 #[.string ⟨#[97, 110, 99, 104, 111, 114]⟩, .string ⟨#[98, 111, 108, 116]⟩, .string ⟨#[99, 114, 97, 110, 107]⟩, .string ⟨#[102, 111, 114, 107]⟩, .string ⟨#[102, 114, 97, 109, 101]⟩, .string ⟨#[104, 101, 97, 100, 115, 101, 116]⟩, .string ⟨#[112, 111, 115, 116]⟩, .string ⟨#[115, 97, 100, 100, 108, 101]⟩]) := by
    rw [hw3]; have := Blk.new (w.alloc (.cells #[] 58)) 9 #[.string ⟨#[97, 110, 99, 104, 111, 114]⟩, .string ⟨#[98, 111, 108, 116]⟩, .string ⟨#[99, 114, 97, 110, 107]⟩, .string ⟨#[102, 111, 114, 107]⟩, .string ⟨#[102, 114, 97, 109, 101]⟩, .string ⟨#[104, 101, 97, 100, 115, 101, 116]⟩, .string ⟨#[112, 111, 115, 116]⟩, .string ⟨#[115, 97, 100, 100, 108, 101]⟩]; rw [World.size_alloc] at this; exact Lib.hid this
  have HLn : Hid (g < w.heap.size + 1) := Lib.hid (by omega)
  clear hw3 hb3
  go_wp2
  go_loopw [3, 5] (fun o i wr => ∃ (L : List Bin) (Ao : Option Addr) (co k : Nat), o = .slice Ao L.length co ∧ i = .int .i64 k ∧ k ≤ 8 ∧ L.length ≤ k ∧ binFit L ∧ wr.ownsRow w.heap.size 58 5 (.slice Ao L.length co) L.length (binRow L) ∧ Src wr base g A n c ∧ Blk wr (w.heap.size + 1) 9 #[.string ⟨#[97, 110, 99, 104, 111, 114]⟩, .string ⟨#[98, 111, 108, 116]⟩, .string ⟨#[99, 114, 97, 110, 107]⟩, .string ⟨#[102, 111, 114, 107]⟩, .string ⟨#[102, 114, 97, 109, 101]⟩, .string ⟨#[104, 101, 97, 100, 115, 101, 116]⟩, .string ⟨#[112, 111, 115, 116]⟩, .string ⟨#[115, 97, 100, 100, 108, 101]⟩] ∧ (Value.slice Ao L.length co).ownBlock ≠ some (w.heap.size + 1) ∧ w.grownBy wr (some g)) (fun _ i _ => 8 - (intOf i).toNat)
  case atStart => exact ⟨[], some ⟨w.heap.size, 0, none⟩, 0, 0, rfl, (by rfl), by omega, by simp, (fun i hi => by simp at hi), HO3.out, Hs3.out, HBn.out, (by simp [Value.ownBlock]), Hg3.out⟩
  case round =>
    clear HO3 Hs3 HBn Hg3
    obtain ⟨L, Ao, co, k, rfl, rfl, hk, hLk, hf, ho, hsr, hB, hne, hg⟩ := hrel
    have Hs1 := Lib.hid hsr
    have Hg1 := Lib.hid hg
    have Ho1 := Lib.hid ho
    have HB1 := Lib.hid hB
    have HN1 := Lib.hid hne
    have Hf := Lib.hid hf
    have NG := Lib.hid (show (Value.slice Ao L.length co).ownBlock ≠ some g from fun h => by have := (World.ownsRow.lt ho g h).1; omega)
    have hsz1 := hg.size
    clear hsr hg ho hB hne hf
    by_cases hk8 : k < 8
    · skip
      go_wp2_with fail
      refine (next_any _ base g A n c 3 Hs1.out).mono ?_
      rintro e w4 ⟨x, rfl, hx, hs, hg⟩
      have hx : x < 3 := by omega
      clear hx
      have Hs4 := Lib.hid hs
      have Hg4 := Lib.hid (gb_trans Hg1.out hg)
      have Ho4 := Lib.hid (Ho1.out.kept hg (.inr NG.out))
      have HB4n := Lib.hid (HB1.out.grown hg (fun e => by injection e; have := HLn.out; omega))
      have hsz4 := Hg4.out.size
      clear hs hg
      by_cases hx0 : 0 < x
      · skip
        have cN : w4.cell? ⟨w.heap.size + 1, k, none⟩ = some (.string (strsAt drawNames k)) := by rw [HB4n.out.cell k]; exact names_at hk8
        have j0 : (0 : Int) ≤ (k : Int) := Int.natCast_nonneg _
        have j1 : (k : Int) < 8 := by omega
        go_wp2_with fail
        refine (good_any _ base g A n c _ Hs4.out).mono ?_
        rintro e w5 ⟨p, rfl, hpn, hs, hg⟩
        have HP := Lib.hid hpn
        clear hpn
        have Hs5 := Lib.hid hs
        have Hg5 := Lib.hid (gb_trans Hg4.out hg)
        have Ho5 := Lib.hid (Ho4.out.kept hg (.inr NG.out))
        have HB5n := Lib.hid (HB4n.out.grown hg (fun e => by injection e; have := HLn.out; omega))
        have hsz5 := Hg5.out.size
        clear hs hg
        clear cN
        go_wp2_with (at_builtin; refine wpList_append_sl _ rfl (.tmp 18) (.tmp 25) _ rfl w.heap.size 58 i0 _ 5 48 Try.underlying25 hi hz0 hz1 hz2 rfl (by omega) _ L.length (binRow L) rfl (Ho5.out.alloc _) (some ⟨w5.heap.size, 0, none⟩) 1 1 (binCells p) rfl (Rd.of_block (cs := #[.string p.code, .int .i64 p.amount, .int .i64 p.reserved, .int .i64 p.point, .int .i64 p.lot]) (heap_alloc_new _ _) rfl) (binCells_one _) (by unfold maxLen; omega) (by omega) (by simp; omega) ?_; intro A9 c9 w6 ho9 hg9 hor9)
        have hrow : (∀ q, (Value.slice Ao L.length co).ownBlock = some q → w.heap.size ≤ q ∧ q < w5.heap.size) := (fun q hq => World.ownsRow.lt Ho5.out q hq)
        have Hs6 := Lib.hid ((Hs5.out.below ((Below.refl _ _).alloc (Nat.le_refl _) (.cells #[.string p.code, .int .i64 p.amount, .int .i64 p.reserved, .int .i64 p.point, .int .i64 p.lot] 58))).other hg9 (fun q hq => by have := (hrow q hq).1; omega))
        have Hg6 := Lib.hid (gb_other (gb_below Hg5.out ((Below.refl _ _).alloc (Nat.le_refl _) (.cells #[.string p.code, .int .i64 p.amount, .int .i64 p.reserved, .int .i64 p.point, .int .i64 p.lot] 58))) hg9 (fun q hq => by have := (hrow q hq).1; omega))
        have HB6n := Lib.hid ((HB5n.out.alloc _).grown hg9 (fun e => HN1.out e.symm))
        have HN6n := Lib.hid (show (Value.slice A9 (L.length + 1) c9).ownBlock ≠ some (w.heap.size + 1) from fun h => by rcases hor9 with e | e; (· exact HN1.out (e.symm.trans h)); (· have e2 := e.symm.trans h; have hl := HB5n.out.lt; simp at e2; omega))
        have Ho6 := Lib.hid ho9
        clear ho9 hg9 hor9 hrow
        go_roundw
        case rel => exact ⟨L ++ [p], A9, c9, k + 1, by rw [List.length_append]; rfl, by go_num, by omega, by simp; omega, binFit_app Hf.out (by rw [HP.out]; exact drawNames_fit hk8), by rw [List.length_append, binRow_append]; exact Ho6.out, Hs6.out, HB6n.out, by rw [List.length_append]; exact HN6n.out, Hg6.out⟩
        case measure => simp [intOf]; omega
      · go_wp2
        go_roundw
        case rel => exact ⟨L, Ao, co, k + 1, rfl, by go_num, by omega, by omega, Hf.out, Ho4.out, Hs4.out, HB4n.out, HN1.out, Hg4.out⟩
        case measure => simp [intOf]; omega
    · have hk9 : k = 8 := by omega
      subst hk9
      clear hk8
      go_wp2_with fail
      refine (next_any _ base g A n c 40 Hs1.out).mono ?_
      rintro e w7 ⟨z, rfl, hx, hs, hg⟩
      clear hx
      have Hs7 := Lib.hid hs
      have Hg7 := Lib.hid (gb_trans Hg1.out hg)
      have Ho7 := Lib.hid (Ho1.out.kept hg (.inr NG.out))
      have HB7n := Lib.hid (HB1.out.grown hg (fun e => by injection e; have := HLn.out; omega))
      have hsz7 := Hg7.out.size
      clear hs hg
      by_cases hq0 : z = 0
      · subst hq0
        have KT := Lib.hid (Blk.new w7 9 #[.string ⟨#[98, 111, 108, 116]⟩, .string ⟨#[90]⟩, .string ⟨#[122, 105, 112]⟩])
        go_wp2_with fail
        refine (next_any _ base g A n c 3 (Hs7.out.below ((Below.refl _ _).alloc (Nat.le_refl _) (.cells #[.string ⟨#[98, 111, 108, 116]⟩, .string ⟨#[90]⟩, .string ⟨#[122, 105, 112]⟩] 9)))).mono ?_
        rintro e w8 ⟨y, rfl, hx, hs, hg⟩
        have hy : y < 3 := by omega
        clear hx
        have KT2 := Lib.hid (KT.out.grown hg (fun e => by injection e; have := Hs7.out.lt; omega))
        have Hs8 := Lib.hid hs
        have Hg8 := Lib.hid (gb_trans (gb_below Hg7.out ((Below.refl _ _).alloc (Nat.le_refl _) (.cells #[.string ⟨#[98, 111, 108, 116]⟩, .string ⟨#[90]⟩, .string ⟨#[122, 105, 112]⟩] 9))) hg)
        have Ho8 := Lib.hid ((Ho7.out.alloc _).kept hg (.inr NG.out))
        have HB8n := Lib.hid ((HB7n.out.alloc _).grown hg (fun e => by injection e; have := HLn.out; omega))
        have hsz8 := Hg8.out.size
        clear hs hg
        obtain ⟨nm, hnm, cT⟩ : ∃ nm : ByteArray, nm.size ≤ maxLen ∧ w8.cell? ⟨w7.heap.size, y, none⟩ = some (.string nm) := by
          rw [KT2.out.cell y]
          match y, hy with
          | 0, _ => exact ⟨_, by simp [ByteArray.size, maxLen], rfl⟩
          | 1, _ => exact ⟨_, by simp [ByteArray.size, maxLen], rfl⟩
          | 2, _ => exact ⟨_, by simp [ByteArray.size, maxLen], rfl⟩
        have j0 : (0 : Int) ≤ (y : Int) := Int.natCast_nonneg _
        have j1 : (y : Int) < 3 := by omega
        go_wp2_with fail
        refine (good_any _ base g A n c _ Hs8.out).mono ?_
        rintro e w9 ⟨p, rfl, hpn, hs, hg⟩
        have HP := Lib.hid hpn
        clear hpn
        have Hs9 := Lib.hid hs
        have Hg9 := Lib.hid (gb_trans Hg8.out hg)
        have Ho9 := Lib.hid (Ho8.out.kept hg (.inr NG.out))
        have HB9n := Lib.hid (HB8n.out.grown hg (fun e => by injection e; have := HLn.out; omega))
        have hsz9 := Hg9.out.size
        clear hs hg
        clear cT
        go_wp2_with (at_builtin; refine wpList_append_sl _ rfl (.tmp 31) (.tmp 39) _ rfl w.heap.size 58 i0 _ 5 48 Try.underlying25 hi hz0 hz1 hz2 rfl (by omega) _ L.length (binRow L) rfl (Ho9.out.alloc _) (some ⟨w9.heap.size, 0, none⟩) 1 1 (binCells p) rfl (Rd.of_block (cs := #[.string p.code, .int .i64 p.amount, .int .i64 p.reserved, .int .i64 p.point, .int .i64 p.lot]) (heap_alloc_new _ _) rfl) (binCells_one _) (by unfold maxLen; omega) (by omega) (by simp; omega) ?_; intro A9 c9 w10 ho9 hg9 hor9)
        have hrow : (∀ q, (Value.slice Ao L.length co).ownBlock = some q → w.heap.size ≤ q ∧ q < w9.heap.size) := (fun q hq => World.ownsRow.lt Ho9.out q hq)
        have Hs10 := Lib.hid ((Hs9.out.below ((Below.refl _ _).alloc (Nat.le_refl _) (.cells #[.string p.code, .int .i64 p.amount, .int .i64 p.reserved, .int .i64 p.point, .int .i64 p.lot] 58))).other hg9 (fun q hq => by have := (hrow q hq).1; omega))
        have Hg10 := Lib.hid (gb_other (gb_below Hg9.out ((Below.refl _ _).alloc (Nat.le_refl _) (.cells #[.string p.code, .int .i64 p.amount, .int .i64 p.reserved, .int .i64 p.point, .int .i64 p.lot] 58))) hg9 (fun q hq => by have := (hrow q hq).1; omega))
        have HB10n := Lib.hid ((HB9n.out.alloc _).grown hg9 (fun e => HN1.out e.symm))
        have HN10n := Lib.hid (show (Value.slice A9 (L.length + 1) c9).ownBlock ≠ some (w.heap.size + 1) from fun h => by rcases hor9 with e | e; (· exact HN1.out (e.symm.trans h)); (· have e2 := e.symm.trans h; have hl := HB9n.out.lt; simp at e2; omega))
        have Ho10 := Lib.hid ho9
        clear ho9 hg9 hor9 hrow
        go_wp2
        go_ret
        exact ⟨L ++ [p], .slice A9 (L.length + 1) c9, rfl, by rw [List.length_append, binRow_append]; exact Ho10.out, binFit_app Hf.out (by rw [HP.out]; exact hnm), by simp; omega, Hs10.out, Hg10.out⟩
      · skip
        by_cases hq1 : z = 1
        · subst hq1
          clear hq0
          go_wp2
          go_loopw [3, 6] (fun o i wr => ∃ (L : List Bin) (Ao : Option Addr) (co k : Nat), o = .slice Ao L.length co ∧ i = .int .i64 k ∧ k ≤ L.length ∧ L.length ≤ 21 ∧ binFit L ∧ wr.ownsRow w.heap.size 58 5 (.slice Ao L.length co) L.length (binRow L) ∧ Src wr base g A n c ∧ w.grownBy wr (some g)) (fun o _ _ => 21 - vLenD o)
          case atStart => exact ⟨L, Ao, co, 0, rfl, rfl, Nat.zero_le _, by omega, Hf.out, Ho7.out, Hs7.out, Hg7.out⟩
          case round =>
            rename World => wo
            clear Ho7 Hs7 Hg7 Hf NG HN1 HB1 Ho1 Hs1 Hg1
            obtain ⟨L, Ao, co, k, rfl, rfl, hkL, hL21, hf, ho, hsr, hg⟩ := hrel
            have Hs1 := Lib.hid hsr
            have Hg1 := Lib.hid hg
            have Ho1 := Lib.hid ho
            have Hf := Lib.hid hf
            have NG := Lib.hid (show (Value.slice Ao L.length co).ownBlock ≠ some g from fun h => by have := (World.ownsRow.lt ho g h).1; omega)
            have hsz1 := hg.size
            clear hsr hg ho hf
            go_wp2_with fail
            refine (next_any _ base g A n c 2 Hs1.out).mono ?_
            rintro e w11 ⟨y, rfl, hx, hs, hg⟩
            have hy : y < 2 := by omega
            clear hx
            have Hs11 := Lib.hid hs
            have Hg11 := Lib.hid (gb_trans Hg1.out hg)
            have Ho11 := Lib.hid (Ho1.out.kept hg (.inr NG.out))
            have hsz11 := Hg11.out.size
            clear hs hg
            have xx := IntWalk.i64_in (20 + (y : Int)) (by omega)
            by_cases hlt : (L.length : Int) < 20 + (y : Int)
            · skip
              have hk20 : k ≤ 20 := by omega
              have z1 : ¬ 9223372036854775807 < 1 + (min (k + 1) 22 - k) := by omega
              have z2 : (k : Int) + 1 ≤ 22 := by omega
              have z3 : (0 : Int) ≤ (k : Int) + 1 := by omega
              have z4 : (k : Int) ≤ (k : Int) + 1 := by omega
              have z5 : (0 : Int) ≤ (k : Int) := by omega
              have z6 := IntWalk.i64_in ((k : Int) + 1) (by omega)
              have Hnx := Lib.hid (show (({ data := #[120] } : ByteArray) ++ ({ data := #[97, 98, 99, 100, 101, 102, 103, 104, 105, 106, 107, 108, 109, 110, 111, 112, 113, 114, 115, 116, 117, 118] } : ByteArray).extract k (k + 1)).size ≤ maxLen from nx_size _ _ _ _ (by simp [ByteArray.size]))
              go_wp2_with fail
              refine (good_any _ base g A n c (({ data := #[120] } : ByteArray) ++ ({ data := #[97, 98, 99, 100, 101, 102, 103, 104, 105, 106, 107, 108, 109, 110, 111, 112, 113, 114, 115, 116, 117, 118] } : ByteArray).extract k (k + 1)) Hs11.out).mono ?_
              rintro e w12 ⟨p, rfl, hpn, hs, hg⟩
              have HP := Lib.hid hpn
              clear hpn
              have Hs12 := Lib.hid hs
              have Hg12 := Lib.hid (gb_trans Hg11.out hg)
              have Ho12 := Lib.hid (Ho11.out.kept hg (.inr NG.out))
              have hsz12 := Hg12.out.size
              clear hs hg
              go_wp2_with (at_builtin; refine wpList_append_sl _ rfl (.tmp 51) (.tmp 59) _ rfl w.heap.size 58 i0 _ 5 48 Try.underlying25 hi hz0 hz1 hz2 rfl (by omega) _ L.length (binRow L) rfl (Ho12.out.alloc _) (some ⟨w12.heap.size, 0, none⟩) 1 1 (binCells p) rfl (Rd.of_block (cs := #[.string p.code, .int .i64 p.amount, .int .i64 p.reserved, .int .i64 p.point, .int .i64 p.lot]) (heap_alloc_new _ _) rfl) (binCells_one _) (by unfold maxLen; omega) (by omega) (by simp; omega) ?_; intro A9 c9 w13 ho9 hg9 hor9)
              have hrow : (∀ q, (Value.slice Ao L.length co).ownBlock = some q → w.heap.size ≤ q ∧ q < w12.heap.size) := (fun q hq => World.ownsRow.lt Ho12.out q hq)
              have Hs13 := Lib.hid ((Hs12.out.below ((Below.refl _ _).alloc (Nat.le_refl _) (.cells #[.string p.code, .int .i64 p.amount, .int .i64 p.reserved, .int .i64 p.point, .int .i64 p.lot] 58))).other hg9 (fun q hq => by have := (hrow q hq).1; omega))
              have Hg13 := Lib.hid (gb_other (gb_below Hg12.out ((Below.refl _ _).alloc (Nat.le_refl _) (.cells #[.string p.code, .int .i64 p.amount, .int .i64 p.reserved, .int .i64 p.point, .int .i64 p.lot] 58))) hg9 (fun q hq => by have := (hrow q hq).1; omega))
              have Ho13 := Lib.hid ho9
              clear ho9 hg9 hor9 hrow
              clear z1 z2 z3 z4 z5 z6
              go_roundw
              case rel => exact ⟨L ++ [p], A9, c9, k + 1, by rw [List.length_append]; rfl, by go_num, by simp; omega, by simp; omega, binFit_app Hf.out (by rw [HP.out]; exact Hnx.out), by rw [List.length_append, binRow_append]; exact Ho13.out, Hs13.out, Hg13.out⟩
              case measure => simp [vLenD]; omega
            · go_wp2
              go_ret
              exact ⟨L, _, rfl, Ho11.out, Hf.out, by omega, Hs11.out, Hg11.out⟩
        · by_cases hq2 : z = 2
          · subst hq2
            clear hq0 hq1
            go_wp2_with fail
            refine (pick_any _ base g A n c [5, 100000, 100001] _ (Hs7.out.below ((Below.refl _ _).alloc (Nat.le_refl _) (.cells #[.int .i64 5, .int .i64 100000, .int .i64 100001] 2))) (by have := sl_laid w7 [5, 100000, 100001] (by simp [maxLen]); simpa [intsRow] using this) (by simp) (by simp) (fun h => by have hg0 := Hs7.out.lt; have : w7.heap.size = g := (by simpa [Value.ownBlock] using h); first | omega | (simp at this; omega))).mono ?_
            rintro e w14 ⟨p1, hmp1, rfl, hs, hg⟩
            have Hs14 := Lib.hid hs
            have Hg14 := Lib.hid (gb_trans (gb_below Hg7.out ((Below.refl _ _).alloc (Nat.le_refl _) (.cells #[.int .i64 5, .int .i64 100000, .int .i64 100001] 2))) hg)
            have Ho14 := Lib.hid ((Ho7.out.alloc _).kept hg (.inr NG.out))
            have HB14n := Lib.hid ((HB7n.out.alloc _).grown hg (fun e => by injection e; have := HLn.out; omega))
            have hsz14 := Hg14.out.size
            clear hs hg
            clear hmp1
            go_wp2_with fail
            refine (pick_any _ base g A n c [5, 6, -1] _ (Hs14.out.below ((Below.refl _ _).alloc (Nat.le_refl _) (.cells #[.int .i64 5, .int .i64 6, .int .i64 (-1)] 2))) (by have := sl_laid w14 [5, 6, -1] (by simp [maxLen]); simpa [intsRow] using this) (by simp) (by simp) (fun h => by have hg0 := Hs14.out.lt; have : w14.heap.size = g := (by simpa [Value.ownBlock] using h); first | omega | (simp at this; omega))).mono ?_
            rintro e w15 ⟨p2, hmp2, rfl, hs, hg⟩
            have Hs15 := Lib.hid hs
            have Hg15 := Lib.hid (gb_trans (gb_below Hg14.out ((Below.refl _ _).alloc (Nat.le_refl _) (.cells #[.int .i64 5, .int .i64 6, .int .i64 (-1)] 2))) hg)
            have Ho15 := Lib.hid ((Ho14.out.alloc _).kept hg (.inr NG.out))
            have HB15n := Lib.hid ((HB14n.out.alloc _).grown hg (fun e => by injection e; have := HLn.out; omega))
            have hsz15 := Hg15.out.size
            clear hs hg
            clear hmp2
            go_wp2_with fail
            refine (pick_any _ base g A n c [0, 1, 100000] _ (Hs15.out.below ((Below.refl _ _).alloc (Nat.le_refl _) (.cells #[.int .i64 0, .int .i64 1, .int .i64 100000] 2))) (by have := sl_laid w15 [0, 1, 100000] (by simp [maxLen]); simpa [intsRow] using this) (by simp) (by simp) (fun h => by have hg0 := Hs15.out.lt; have : w15.heap.size = g := (by simpa [Value.ownBlock] using h); first | omega | (simp at this; omega))).mono ?_
            rintro e w16 ⟨p3, hmp3, rfl, hs, hg⟩
            have Hs16 := Lib.hid hs
            have Hg16 := Lib.hid (gb_trans (gb_below Hg15.out ((Below.refl _ _).alloc (Nat.le_refl _) (.cells #[.int .i64 0, .int .i64 1, .int .i64 100000] 2))) hg)
            have Ho16 := Lib.hid ((Ho15.out.alloc _).kept hg (.inr NG.out))
            have HB16n := Lib.hid ((HB15n.out.alloc _).grown hg (fun e => by injection e; have := HLn.out; omega))
            have hsz16 := Hg16.out.size
            clear hs hg
            clear hmp3
            go_wp2_with (at_builtin; refine wpList_append_sl _ rfl (.tmp 63) (.tmp 74) _ rfl w.heap.size 58 i0 _ 5 48 Try.underlying25 hi hz0 hz1 hz2 rfl (by omega) _ L.length (binRow L) rfl (Ho16.out.alloc _) (some ⟨w16.heap.size, 0, none⟩) 1 1 (binCells ⟨⟨#[122, 105, 110, 99]⟩, p1, p2, 0, p3⟩) rfl (Rd.of_block (cs := #[.string ⟨#[122, 105, 110, 99]⟩, .int .i64 p1, .int .i64 p2, .int .i64 0, .int .i64 p3]) (heap_alloc_new _ _) rfl) (binCells_one _) (by unfold maxLen; omega) (by omega) (by simp; omega) ?_; intro A9 c9 w17 ho9 hg9 hor9)
            have hrow : (∀ q, (Value.slice Ao L.length co).ownBlock = some q → w.heap.size ≤ q ∧ q < w16.heap.size) := (fun q hq => World.ownsRow.lt Ho16.out q hq)
            have Hs17 := Lib.hid ((Hs16.out.below ((Below.refl _ _).alloc (Nat.le_refl _) (.cells #[.string ⟨#[122, 105, 110, 99]⟩, .int .i64 p1, .int .i64 p2, .int .i64 0, .int .i64 p3] 58))).other hg9 (fun q hq => by have := (hrow q hq).1; omega))
            have Hg17 := Lib.hid (gb_other (gb_below Hg16.out ((Below.refl _ _).alloc (Nat.le_refl _) (.cells #[.string ⟨#[122, 105, 110, 99]⟩, .int .i64 p1, .int .i64 p2, .int .i64 0, .int .i64 p3] 58))) hg9 (fun q hq => by have := (hrow q hq).1; omega))
            have HB17n := Lib.hid ((HB16n.out.alloc _).grown hg9 (fun e => HN1.out e.symm))
            have HN17n := Lib.hid (show (Value.slice A9 (L.length + 1) c9).ownBlock ≠ some (w.heap.size + 1) from fun h => by rcases hor9 with e | e; (· exact HN1.out (e.symm.trans h)); (· have e2 := e.symm.trans h; have hl := HB16n.out.lt; simp at e2; omega))
            have Ho17 := Lib.hid ho9
            clear ho9 hg9 hor9 hrow
            go_wp2
            go_ret
            exact ⟨L ++ [⟨⟨#[122, 105, 110, 99]⟩, p1, p2, 0, p3⟩], .slice A9 (L.length + 1) c9, rfl, by rw [List.length_append, binRow_append]; exact Ho17.out, binFit_app Hf.out (by simp [ByteArray.size, maxLen]), by simp; omega, Hs17.out, Hg17.out⟩
          · have u0 : ((z : Int) == 0) = false := by simp; omega
            have u1 : ((z : Int) == 1) = false := by simp; omega
            have u2 : ((z : Int) == 2) = false := by simp; omega
            clear hq0 hq1 hq2
            go_wp2
            go_ret
            exact ⟨L, _, rfl, Ho7.out, Hf.out, by omega, Hs7.out, Hg7.out⟩

end Go.Proofs.Ytngphnfbfednnaa
