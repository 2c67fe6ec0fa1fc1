/- The walk of l20Draw. -/
import Derived.Test.YtmjjlpkleapaeaaDrawT
namespace Go.Proofs.Ytmjjlpkleapaeaa
open Go.RowKit

/-- A new row that is laid whole. -/
theorem own_laid (w : World) (cs : Array Value) (e size n : Nat) {base : Nat} (hb : base ≤ w.heap.size) (hn : cs.size = n * size) (hm : n ≤ maxLen) : (w.alloc (.cells cs e)).ownsRow base e size (.slice (some ⟨w.heap.size, 0, none⟩) n n) n cs.toList :=
  ⟨by rw [Array.length_toList]; exact hn, .inr ⟨w.heap.size, n, cs, rfl, hb, heap_alloc_new w _, Nat.le_refl _, hm, hn, by rw [← hn]; exact List.take_of_length_le (by simp)⟩⟩
theorem sl_laid (w : World) (l : List Int) (hm : l.length ≤ maxLen) : Sl (w.alloc (.cells (intsRow l).toArray 2)) 1 (.slice (some ⟨w.heap.size, 0, none⟩) l.length l.length) l.length (intsRow l) := by
  have := own_laid w (intsRow l).toArray 2 1 l.length (Nat.le_refl _) (by simp [intsRow]) hm
  exact Sl.of_own this

set_option maxHeartbeats 8000000 in
theorem draw_any (w : World) (base g : Nat) (A : Option Addr) (n c : Nat) (hs : Src w base g A n c) :
    Calls Try.prog 58 #[.pointer (some ⟨g, 0, none⟩)] w (DrawPost 54 2 tubeRow tubeFit 9 base g A n c w) := by
  have Hs := Lib.hid hs
  have hgl := hs.lt
  obtain ⟨i0, hi, hz0, hz1, hz2⟩ := info_parts Try.infoTube
  clear hs
  go_enter Try.func58, Try.ntmps58
  go_wp2_with fail
  refine (next_any _ base g A n c 12 Hs.out).mono ?_
  rintro e w2 ⟨x, rfl, hx, hs2, hg2⟩
  have Hs2 := Lib.hid hs2
  have Hg2 := Lib.hid hg2
  have hsz2 := hg2.size
  clear hs2 hg2 hx
  by_cases h0 : x = 0
  · subst h0
    have HO := Lib.hid (own_laid w2 #[.int .i64 400, .int .i64 0, .int .i64 0, .int .i64 300, .int .i64 (-400), .int .i64 (-300)] 54 2 3 hsz2 rfl (by simp [maxLen]))
    have HG := Lib.hid (gb_below Hg2.out ((Below.refl _ _).alloc (Nat.le_refl _) (.cells #[.int .i64 400, .int .i64 0, .int .i64 0, .int .i64 300, .int .i64 (-400), .int .i64 (-300)] 54)))
    have HS := Lib.hid (Hs2.out.below ((Below.refl _ _).alloc (Nat.le_refl _) (.cells #[.int .i64 400, .int .i64 0, .int .i64 0, .int .i64 300, .int .i64 (-400), .int .i64 (-300)] 54)))
    go_wp2
    go_ret
    exact ⟨[⟨400, 0⟩, ⟨0, 300⟩, ⟨-400, -300⟩], _, rfl, HO.out, fun _ _ => trivial, by simp, HS.out, HG.out⟩
  · by_cases h1 : x = 1
    · subst h1
      have HO := Lib.hid (own_laid w2 #[.int .i64 560, .int .i64 (-20), .int .i64 60, .int .i64 120, .int .i64 (-600), .int .i64 500, .int .i64 (-20), .int .i64 (-600)] 54 2 4 hsz2 rfl (by simp [maxLen]))
      have HG := Lib.hid (gb_below Hg2.out ((Below.refl _ _).alloc (Nat.le_refl _) (.cells #[.int .i64 560, .int .i64 (-20), .int .i64 60, .int .i64 120, .int .i64 (-600), .int .i64 500, .int .i64 (-20), .int .i64 (-600)] 54)))
      have HS := Lib.hid (Hs2.out.below ((Below.refl _ _).alloc (Nat.le_refl _) (.cells #[.int .i64 560, .int .i64 (-20), .int .i64 60, .int .i64 120, .int .i64 (-600), .int .i64 500, .int .i64 (-20), .int .i64 (-600)] 54)))
      clear h0
      go_wp2
      go_ret
      exact ⟨[⟨560, -20⟩, ⟨60, 120⟩, ⟨-600, 500⟩, ⟨-20, -600⟩], _, rfl, HO.out, fun _ _ => trivial, by simp, HS.out, HG.out⟩
    · by_cases h2 : x = 2
      · subst h2
        clear h0 h1
        go_wp2_with fail
        refine (good_any w2 base g A n c Hs2.out).mono ?_
        rintro e w3 ⟨L, v, rfl, ho3, _, hL, hs3, hg3⟩
        obtain ⟨Ao, co, rfl, _, _⟩ := own_slice ho3
        have Ho3 := Lib.hid ho3
        have Hs3 := Lib.hid hs3
        have Hg3 := Lib.hid (gb_trans Hg2.out hg3)
        have hbl := (World.ownsRow.lt Ho3.out)
        have hg3l : g < w3.heap.size := Hs3.out.lt
        have hone3 : (Value.slice Ao L.length co).ownBlock ≠ some g := fun h => by have := (hbl g h).1; have := Hs2.out.lt; omega
        have Hone3 := Lib.hid hone3
        have Hbl := Lib.hid hbl
        clear ho3 hs3 hg3 hbl hone3
        go_wp2_with fail
        refine (pick_any _ base g A n c [0, 2000, 2001] _ (Hs3.out.below ((Below.refl _ _).alloc (Nat.le_refl _) _)) (by exact sl_laid w3 [0, 2000, 2001] (by simp [maxLen])) (by simp) (by simp) (fun h => by have : w3.heap.size = g := (by simpa [Value.ownBlock] using h); omega)).mono ?_
        rintro e w4 ⟨p1, _, rfl, hs4, hg4⟩
        have Ho4 := Lib.hid ((Ho3.out.alloc _).kept hg4 (.inr Hone3.out))
        have Hs4 := Lib.hid hs4
        have Hg4 := Lib.hid (gb_trans (gb_below Hg3.out ((Below.refl _ _).alloc (Nat.le_refl _) _)) hg4)
        have hg4l : g < w4.heap.size := hs4.lt
        clear hs4 hg4
        go_wp2_with fail
        refine (pick_any _ base g A n c [0, -2000, -2001] _ (Hs4.out.below ((Below.refl _ _).alloc (Nat.le_refl _) _)) (by exact sl_laid w4 [0, -2000, -2001] (by simp [maxLen])) (by simp) (by simp) (fun h => by have : w4.heap.size = g := (by simpa [Value.ownBlock] using h); omega)).mono ?_
        rintro e w5 ⟨p2, _, rfl, hs5, hg5⟩
        have Ho5 := Lib.hid (own_base ((Ho4.out.alloc _).kept hg5 (.inr Hone3.out)) hsz2)
        have Hs5 := Lib.hid hs5
        have Hg5 := Lib.hid (gb_trans (gb_below Hg4.out ((Below.refl _ _).alloc (Nat.le_refl _) _)) hg5)
        have hsz5 := Hg5.out.size
        clear hs5 hg5
        go_wp2_with (at_builtin; refine wpList_append_sl _ rfl (.tmp 22) (.tmp 30) _ rfl w.heap.size 54 i0 _ 2 16 Try.underlying26 hi hz0 hz1 hz2 rfl (by omega) _ L.length (tubeRow L) rfl (Ho5.out.alloc _) (some ⟨w5.heap.size, 0, none⟩) 1 1 (tubeCells ⟨p1, p2⟩) rfl (Rd.of_block (cs := #[.int .i64 p1, .int .i64 p2]) (heap_alloc_new _ _) rfl) (tubeCells_one _) (by unfold maxLen; omega) (by omega) (by simp; omega) ?_; intro A9 c9 w9 ho9 hg9 hor9)
        have hrow : (∀ q, (Value.slice Ao L.length co).ownBlock = some q → w.heap.size ≤ q ∧ q < w5.heap.size) := (fun q hq => World.ownsRow.lt Ho5.out q hq)
        have hbA : Below w5.heap.size w5 (w5.alloc (.cells #[.int .i64 p1, .int .i64 p2] 54)) := (Below.refl _ _).alloc (Nat.le_refl _) _
        have Hs9 := Lib.hid ((Hs5.out.below hbA).other hg9 (fun q hq => by have := (hrow q hq).1; omega))
        have Hg9 := Lib.hid (gb_other (gb_below Hg5.out hbA) hg9 (fun q hq => (hrow q hq).1))
        have Ho9 := Lib.hid ho9
        clear ho9 hg9 hor9 hrow hbA
        go_ret
        exact ⟨L ++ [⟨p1, p2⟩], .slice A9 (L.length + 1) c9, rfl, by rw [List.length_append, tubeRow_append]; exact Ho9.out, fun _ _ => trivial, by simp; omega, Hs9.out, Hg9.out⟩
      · have u0 : ((x : Int) == 0) = false := by simp; omega
        have u1 : ((x : Int) == 1) = false := by simp; omega
        have u2 : ((x : Int) == 2) = false := by simp; omega
        clear h0 h1 h2
        go_wp2_with fail
        refine (good_any w2 base g A n c Hs2.out).mono ?_
        rintro e w3 ⟨L, v, rfl, ho3, _, hL, hs3, hg3⟩
        obtain ⟨Ao, co, rfl, _, _⟩ := own_slice ho3
        have Ho3 := Lib.hid (own_base ho3 hsz2)
        have Hs3 := Lib.hid hs3
        have Hg3 := Lib.hid (gb_trans Hg2.out hg3)
        clear ho3 hs3 hg3
        go_wp2_with fail
        refine (next_any w3 base g A n c 24 Hs3.out).mono ?_
        rintro e w4 ⟨z, rfl, hz, hs4, hg4⟩
        have hone : (Value.slice Ao L.length co).ownBlock ≠ some g := fun h => by have := (World.ownsRow.lt Ho3.out g h).1; omega
        have Ho4 := Lib.hid (Ho3.out.kept hg4 (.inr hone))
        have Hs4 := Lib.hid hs4
        have Hg4 := Lib.hid (gb_trans Hg3.out hg4)
        clear hs4 hg4 hz hone
        by_cases hz : z = 0
        · subst hz
          go_wp2
          go_loopw [3] (fun o wr => ∃ (L : List Tube) (Ao : Option Addr) (co : Nat), o = .slice Ao L.length co ∧ L.length ≤ 9 ∧ wr.ownsRow w.heap.size 54 2 (.slice Ao L.length co) L.length (tubeRow L) ∧ Src wr base g A n c ∧ w.grownBy wr (some g)) (fun o _ => 9 - vLenD o)
          case atStart => exact ⟨L, Ao, co, rfl, by omega, Ho4.out, Hs4.out, Hg4.out⟩
          case round =>
            clear Ho4 Hs4 Hg4 Ho3 Hs3 Hg3
            obtain ⟨L, Ao, co, rfl, hL, ho, hsr, hg⟩ := hrel
            have Ho := Lib.hid ho
            have Hsr := Lib.hid hsr
            have Hg := Lib.hid hg
            clear ho hsr hg
            go_wp2_with fail
            refine (next_any wr base g A n c 2 Hsr.out).mono ?_
            rintro e w5 ⟨y, rfl, hy, hs5, hg5⟩
            have hy2 : y < 2 := by omega
            have hone : (Value.slice Ao L.length co).ownBlock ≠ some g := fun h => by have := (World.ownsRow.lt Ho.out g h).1; omega
            have Ho5 := Lib.hid (Ho.out.kept hg5 (.inr hone))
            have Hs5 := Lib.hid hs5
            have Hg5 := Lib.hid (gb_trans Hg.out hg5)
            have hsz5 := Hg5.out.size
            have xx := IntWalk.i64_in (8 + (y : Int)) (by omega)
            clear hs5 hg5 hone hy
            by_cases hlt : (L.length : Int) < 8 + (y : Int)
            · go_wp2_with (at_builtin; refine wpList_append_sl _ rfl (.tmp 43) (.tmp 45) _ rfl w.heap.size 54 i0 _ 2 16 Try.underlying26 hi hz0 hz1 hz2 rfl (by omega) _ L.length (tubeRow L) rfl (Ho5.out.alloc _) (some ⟨w5.heap.size, 0, none⟩) 1 1 (tubeCells ⟨10, 1⟩) rfl (Rd.of_block (cs := #[.int .i64 10, .int .i64 1]) (heap_alloc_new _ _) rfl) (tubeCells_one _) (by unfold maxLen; omega) (by omega) (by simp; omega) ?_; intro A9 c9 w9 ho9 hg9 hor9)
              have hrow : (∀ q, (Value.slice Ao L.length co).ownBlock = some q → w.heap.size ≤ q ∧ q < w5.heap.size) := (fun q hq => World.ownsRow.lt Ho5.out q hq)
              have hbA : Below w5.heap.size w5 (w5.alloc (.cells #[.int .i64 10, .int .i64 1] 54)) := (Below.refl _ _).alloc (Nat.le_refl _) _
              have Hs9 := Lib.hid ((Hs5.out.below hbA).other hg9 (fun q hq => by have := (hrow q hq).1; omega))
              have Hg9 := Lib.hid (gb_other (gb_below Hg5.out hbA) hg9 (fun q hq => (hrow q hq).1))
              have Ho9 := Lib.hid ho9
              clear ho9 hg9 hor9 hrow hbA
              go_roundw
              case rel => exact ⟨L ++ [⟨10, 1⟩], A9, c9, by rw [List.length_append]; rfl, by simp; omega, by rw [List.length_append, tubeRow_append]; exact Ho9.out, Hs9.out, Hg9.out⟩
              case measure => simp [vLenD]; omega
            · go_wp2
              go_ret
              exact ⟨L, _, rfl, Ho5.out, fun _ _ => trivial, by omega, Hs5.out, Hg5.out⟩
        · have u5 : ((z : Int) == 0) = false := by simp; omega
          clear hz
          go_wp2
          go_ret
          exact ⟨L, _, rfl, Ho4.out, fun _ _ => trivial, by omega, Hs4.out, Hg4.out⟩

end Go.Proofs.Ytmjjlpkleapaeaa
