/- Recipes: the walk of AllAfter in the program. -/
import Derived.Test.YtecfkomijaakhaaRecK
namespace Go.Proofs.Ytecfkomijaakhaa
open Go.RowKit Go.Sort

set_option maxHeartbeats 8000000 in
theorem implAllAfter_any (w : World) (L : List Step) (V : Value) (x : Int) (hv : Steps w V L) (hn : L.length ≤ 1048576) :
    Calls Try.prog 39 #[V, .int .i64 x] w (RetSC w.heap.size 2 1 intsRow (ancF L x) w) := by
  have Hv := Lib.hid hv
  obtain ⟨A, c, rfl, hl, hc, hr⟩ := hv
  have Hr0 := Lib.hid hr
  unfold maxLen at hc
  clear hr
  cases h1 : isRecipe L
  · have H := Lib.hid (ancF_bad (x := x) h1)
    go_enter Try.func39, Try.ntmps39
    go_wp2_with fail
    refine (implIsRecipe_any w L _ Hv.out hn).mono ?_
    rintro e w2 ⟨rfl, hb2⟩
    rw [h1]
    go_wp2
    go_ret2
    exact RetSC.err H.out rfl hb2
  · obtain ⟨h9, hok, _⟩ := isRecipe_iff.1 h1
    have Hok := Lib.hid hok
    clear hok
    cases h2 : inR x 0 ((L.length : Int) - 1)
    · have H := Lib.hid (ancF_range h1 h2)
      go_enter Try.func39, Try.ntmps39
      go_wp2_with fail
      refine (implIsRecipe_any w L _ Hv.out hn).mono ?_
      rintro e w2 ⟨rfl, hb2⟩
      rw [h1]
      go_wp2_with fail
      refine (within_any _ _ _ _).mono ?_
      rintro e w3 ⟨rfl, rfl⟩
      rw [h2]
      go_wp2
      go_ret2
      exact RetSC.err H.out rfl hb2
    · have hx : 0 ≤ x ∧ x ≤ (L.length : Int) - 1 := by simpa [inR] using h2
      obtain ⟨s, rfl⟩ := Int.eq_ofNat_of_zero_le hx.1
      have hs : s < L.length := by omega
      have H := Lib.hid (ancF_ok h1 h2)
      obtain ⟨i0, hi, hz0, hz1, hz2⟩ := info_parts Try.info_ints
      clear hx
      go_enter Try.func39, Try.ntmps39
      go_wp2_with fail
      refine (implIsRecipe_any w L _ Hv.out hn).mono ?_
      rintro e w2 ⟨rfl, hb2⟩
      rw [h1]
      go_wp2_with fail
      refine (within_any _ _ _ _).mono ?_
      rintro e w3 ⟨rfl, rfl⟩
      rw [h2]
      have hsz2 := hb2.size
      have Hr2 := Lib.hid (Hr0.out.below hb2)
      have hq0 : Qu (w2.alloc (.cells #[.int .i64 (s : Int)] 2)) w2.heap.size 2 (.slice (some ⟨w2.heap.size, 0, none⟩) 1 1) 1 (intsRow [(s : Int)]) :=
        ⟨rfl, w2.heap.size, 0, 1, #[.int .i64 (s : Int)], rfl, Nat.le_refl _, heap_alloc_new w2 _, Nat.le_refl _, by simp [maxLen], by simp, fun j u hj => by simpa [intsRow] using hj⟩
      have Hq0 := Lib.hid hq0
      have hz9 := zer_le L.length 0
      clear hq0
      go_wp2
      go_loopw [6, 7] (fun mv qv wr => ∃ (m : Nat) (Q : List Int) (g o c : Nat), mv = .int .i64 m ∧ qv = .slice (some ⟨g, o, none⟩) Q.length c ∧ Qu wr w2.heap.size 2 (.slice (some ⟨g, o, none⟩) Q.length c) Q.length (intsRow Q) ∧
          Bfs L s m Q ∧ m < 512 ∧ 2 * zer L.length m + Q.length ≤ 19 ∧ Below w2.heap.size w2 wr) (fun mv qv _ => 2 * zer L.length (intOf mv).toNat + vLen qv)
      case atStart => exact ⟨0, [(s : Int)], w2.heap.size, 0, 1, rfl, rfl, Hq0.out, Bfs.start hs, by omega, by simp; omega, (Below.refl _ _).alloc (Nat.le_refl _) _⟩
      case round =>
        obtain ⟨m, Q, g, o, cq, rfl, rfl, hq, hbfs, hm, hsum, hb⟩ := hrel
        have Hq := Lib.hid hq
        have Hbfs := Lib.hid hbfs
        have hsz := hb.size
        clear hq hbfs
        cases Q with
        | nil =>
          have Hall := Lib.hid (selBy_congr (k := L.length) (fun i _ => Hbfs.out.all i))
          clear Hq
          simp only [List.length_nil]
          go_wp2
          go_loopw [11, 58] (fun s i wr' => ∃ (k : Nat) (A : Option Addr) (co : Nat), k ≤ L.length ∧ i = .int .i64 k ∧ s = .slice A (selBy (fun i => m.testBit i) k).length co ∧ wr'.ownsRow wr.heap.size 2 1 (.slice A (selBy (fun i => m.testBit i) k).length co) (selBy (fun i => m.testBit i) k).length (intsRow (selBy (fun i => m.testBit i) k)) ∧ Below wr.heap.size wr wr') (fun _ i _ => L.length - (intOf i).toNat)
          case atStart => exact ⟨0, none, 0, Nat.zero_le _, rfl, rfl, World.ownsRow_nil _ _ _ _, Below.refl _ _⟩
          case round =>
            rename World => wx
            obtain ⟨k, A9, co, hk, rfl, rfl, ho, hbx⟩ := hrel
            have Ho := Lib.hid ho
            have hszx := hbx.size
            have hkl := selBy_len (fun i => m.testBit i) k
            clear ho
            by_cases hlt : k < L.length
            · cases hbit : m.testBit k
              · have t1 := mask_no (m := m) (b := k) (by omega) (by omega) hbit
                have HS := Lib.hid (selBy_no (p := fun i => m.testBit i) hbit)
                go_wp2
                go_roundw
                case rel => exact ⟨k + 1, A9, co, by omega, by go_num, by rw [HS.out], by rw [HS.out]; exact Ho.out, hbx⟩
                case measure => simp [intOf]; omega
              · have t1 := mask_yes (m := m) (b := k) (by omega) (by omega) hbit
                have HS := Lib.hid (selBy_yes (p := fun i => m.testBit i) hbit)
                go_wp2_with (at_builtin; refine wpList_append_sl _ rfl (.tmp 66) (.tmp 68) _ rfl wr.heap.size 2 i0 _ 1 8 Try.underlying29 hi hz0 hz1 hz2 rfl (by omega) _ (selBy (fun i => m.testBit i) k).length (intsRow (selBy (fun i => m.testBit i) k)) rfl (Ho.out.alloc _) (some ⟨wx.heap.size, 0, none⟩) 1 1 [.int .i64 (k : Int)] rfl (Rd.of_block (cs := #[.int .i64 (k : Int)]) (heap_alloc_new _ _) rfl) (by intro x hx; simp at hx; subst hx; rfl) (by unfold maxLen; omega) (by omega) (by simp; omega) ?_; intro A8 c8 w8 ho8 hg8 hor8)
                have b8 : Below wr.heap.size wr w8 := (hbx.alloc hszx _).grown hg8 (by simp; omega) (fun q hq => (World.ownsRow.lt Ho.out q hq).1)
                have Ho8 := Lib.hid ho8
                clear ho8 hg8 hor8
                go_roundw
                case rel =>
                  refine ⟨k + 1, A8, c8, by omega, by go_num, ?_, ?_, b8⟩
                  · rw [HS.out, List.length_append]; rfl
                  · rw [HS.out, List.length_append, intsRow_append]; exact Ho8.out
                case measure => simp [intOf]; omega
            · have hke : k = L.length := by omega
              have HK := Lib.hid hke
              have b5 := hb2.trans ((hb.trans (hbx.mono hsz)).mono hsz2)
              have s5 : w.heap.size ≤ wr.heap.size := by omega
              go_wp2
              go_ret2
              exact RetSC.ok H.out Ho.out (by rw [Hall.out, HK.out]) (by rw [Hall.out, HK.out]) s5 b5
        | cons x R =>
          obtain ⟨b, rfl, hbl0, _⟩ := Hbfs.out.qs x (by simp)
          obtain ⟨hpop, hbl, hbs⟩ := Hbfs.out.pop
          have Hpop := Lib.hid hpop
          have Hbs := Lib.hid hbs
          have q0 := Hq.out.cell (j := 0) (u := .int .i64 (b : Int)) (by simp [intsRow])
          rw [Nat.add_zero] at q0
          obtain ⟨hql, hqm⟩ := Hq.out.caps
          unfold maxLen at hqm
          simp only [List.length_cons] at hql hsum
          obtain ⟨gs, os, rfl, hgs, d0, d1, B, cc, d2, hcc, hcm, hrd⟩ := Hr2.out.at hbl
          have D2 := (hb.cell (p := ⟨gs, os + b * 3 + 2, none⟩) hgs).trans d2
          have Hrd := Lib.hid hrd
          unfold maxLen at hcm
          obtain ⟨l, hl0⟩ : ∃ l, l = (stepAt L b).after := ⟨_, rfl⟩
          have Hlb := Lib.hid (fun k (hk : k < l.length) => steps_after Hok.out hbl (k := k) (by rw [← hl0]; exact hk))
          rw [← hl0] at Hrd D2 hcc Hlb
          have Hl0 := Lib.hid hl0
          obtain ⟨r, hr9⟩ : ∃ r, r = R.length := ⟨_, rfl⟩
          have Hr9 := Lib.hid hr9
          have iq : (0 : Int) < (R.length : Int) + 1 := by omega
          have iq1 : (1 : Int) ≤ (R.length : Int) + 1 := by omega
          clear hpop hbs d0 d1 d2 hrd hl0 hbl0
          by_cases hc1 : cq = 1
          · skip
            subst hc1
            have hR : R = [] := List.eq_nil_of_length_eq_zero (by omega)
            have Ht := Lib.hid (show Qu wr w2.heap.size 2 (.slice (some ⟨g, o, none⟩) R.length 0) R.length (intsRow R) from Hq.out.tail (by rfl) (.inr ⟨rfl, rfl⟩))
            subst hR
            go_wp2
            go_loopw [6, 7, 38] (fun mv qv i wr' => ∃ (k m' : Nat) (Q' : List Int) (g' o' c' : Nat), k ≤ l.length ∧ i = .int .i64 k ∧ mv = .int .i64 m' ∧ qv = .slice (some ⟨g', o', none⟩) Q'.length c' ∧ Qu wr' w2.heap.size 2 (.slice (some ⟨g', o', none⟩) Q'.length c') Q'.length (intsRow Q') ∧
                BfsI L s b k m' Q' ∧ m' < 512 ∧ 2 * zer L.length m' + Q'.length ≤ 2 * zer L.length m + r ∧ Below w2.heap.size w2 wr') (fun _ _ i _ => l.length - (intOf i).toNat)
            case atStart => first | exact ⟨0, m, R, g, o + 1, cq - 1, Nat.zero_le _, rfl, rfl, rfl, Ht.out, Hpop.out, hm, by omega, hb⟩ | exact ⟨0, m, [], g, o, 0, Nat.zero_le _, rfl, rfl, rfl, Ht.out, Hpop.out, hm, by simp, hb⟩
            case round =>
              clear D2 q0 Hq
              rename World => wx
              obtain ⟨k, m', Q', g', o', c', hk, rfl, rfl, rfl, hq', hbi, hm', hsum', hb'⟩ := hrel
              have Hq' := Lib.hid hq'
              have Hbi := Lib.hid hbi
              have hsz' := hb'.size
              clear hq' hbi
              by_cases hkl : k < l.length
              · obtain ⟨ga, oa, rfl, hga, a0⟩ := (show Rd w2 w2.heap.size 1 B l.length (intsRow l) from Hrd.out).ints hkl
                obtain ⟨j0, j1⟩ := Hlb.out k hkl
                obtain ⟨j, hje⟩ := Int.eq_ofNat_of_zero_le j0
                have hjl : j < L.length := by omega
                rw [hje] at a0
                have a1 := (hb'.cell (p := ⟨ga, oa + k, none⟩) hga).trans a0
                have Hje := Lib.hid (show intsAt (stepAt L b).after k = j by rw [← Hl0.out]; exact hje)
                clear a0 j0 j1 hje
                cases hbit : m'.testBit j
                · have t1 := mask_no0 (m := m') (b := j) (by omega) (by omega) hbit
                  have Hor := Lib.hid (mask_or (m := m') (b := j) (by omega) (by omega))
                  have hmo : m' ||| 2 ^ j < 512 := Nat.or_lt_two_pow (n := 9) (by omega) (Nat.pow_lt_pow_right (by omega) (by omega))
                  have HB2 := Lib.hid (Hbi.out.add Hbs.out (by rw [← Hl0.out]; exact hkl) Hje.out hjl)
                  have hz := zer_or m' j hbit L.length
                  rw [if_pos hjl] at hz
                  go_wp2_with (at_builtin; refine wpList_append_qu _ rfl (.tmp 51) (.tmp 53) _ rfl w2.heap.size 2 i0 _ 8 Try.underlying29 hi hz0 hz1 hz2 rfl _ Q'.length (intsRow Q') rfl (Hq'.out.below ((Below.refl _ _).alloc (Nat.le_refl _) _)) ⟨wx.heap.size, 0, none⟩ 1 (.int .i64 (j : Int)) rfl ((Blk.new wx _ _).cell 0) rfl (by unfold maxLen; omega) (by omega) (by simp; omega) ?_; intro g9 o9 c9 w9 hq9 hg9)
                  have b9 : Below w2.heap.size w2 w9 := (hb'.alloc hsz' _).grown hg9 (by simp; omega) (fun q hq => (Hq'.out.lt q hq).1)
                  have Hq9 := Lib.hid hq9
                  clear hq9 hg9
                  refine ⟨?_, ?measure0⟩
                  repeat apply Exists.intro
                  refine ⟨?rel0, rfl⟩
                  case rel0 =>
                    refine ⟨k + 1, m' ||| 2 ^ j, Q' ++ [(j : Int)], g9, o9, c9, by omega, by go_num, valI Hor.out, ?_, ?_, HB2.out, hmo, by simp; omega, b9⟩
                    · rw [List.length_append]; rfl
                    · rw [List.length_append, intsRow_append]; exact Hq9.out
                  case measure0 => simp [intOf]; omega
                · have t1 := mask_yes0 (m := m') (b := j) (by omega) (by omega) hbit
                  have HB2 := Lib.hid (Hbi.out.old Hje.out hbit)
                  go_wp2
                  go_roundw
                  case rel => exact ⟨k + 1, m', Q', g', o', c', by omega, by go_num, rfl, rfl, Hq'.out, HB2.out, hm', hsum', hb'⟩
                  case measure => simp [intOf]; omega
              · have hke : k = l.length := by omega
                have HF := Lib.hid (show Bfs L s m' Q' from (by have := Hbi.out; rw [hke, Hl0.out] at this; exact this.fin))
                have HR9 := Hr9.out
                go_wp2
                go_roundw
                case rel => exact ⟨m', Q', g', o', c', rfl, rfl, Hq'.out, HF.out, hm', by first | omega | (simp at hsum HR9; omega), hb'⟩
                case measure => simp [intOf, vLen] at hsum ⊢; omega
          · skip
            have Ht := Lib.hid (show Qu wr w2.heap.size 2 (.slice (some ⟨g, o + 1, none⟩) R.length (cq - 1)) R.length (intsRow R) from Hq.out.tail rfl (.inl rfl))
            go_wp2
            go_loopw [6, 7, 38] (fun mv qv i wr' => ∃ (k m' : Nat) (Q' : List Int) (g' o' c' : Nat), k ≤ l.length ∧ i = .int .i64 k ∧ mv = .int .i64 m' ∧ qv = .slice (some ⟨g', o', none⟩) Q'.length c' ∧ Qu wr' w2.heap.size 2 (.slice (some ⟨g', o', none⟩) Q'.length c') Q'.length (intsRow Q') ∧
                BfsI L s b k m' Q' ∧ m' < 512 ∧ 2 * zer L.length m' + Q'.length ≤ 2 * zer L.length m + r ∧ Below w2.heap.size w2 wr') (fun _ _ i _ => l.length - (intOf i).toNat)
            case atStart => first | exact ⟨0, m, R, g, o + 1, cq - 1, Nat.zero_le _, rfl, rfl, rfl, Ht.out, Hpop.out, hm, by omega, hb⟩ | exact ⟨0, m, [], g, o, 0, Nat.zero_le _, rfl, rfl, rfl, Ht.out, Hpop.out, hm, by simp, hb⟩
            case round =>
              clear D2 q0 Hq
              rename World => wx
              obtain ⟨k, m', Q', g', o', c', hk, rfl, rfl, rfl, hq', hbi, hm', hsum', hb'⟩ := hrel
              have Hq' := Lib.hid hq'
              have Hbi := Lib.hid hbi
              have hsz' := hb'.size
              clear hq' hbi
              by_cases hkl : k < l.length
              · obtain ⟨ga, oa, rfl, hga, a0⟩ := (show Rd w2 w2.heap.size 1 B l.length (intsRow l) from Hrd.out).ints hkl
                obtain ⟨j0, j1⟩ := Hlb.out k hkl
                obtain ⟨j, hje⟩ := Int.eq_ofNat_of_zero_le j0
                have hjl : j < L.length := by omega
                rw [hje] at a0
                have a1 := (hb'.cell (p := ⟨ga, oa + k, none⟩) hga).trans a0
                have Hje := Lib.hid (show intsAt (stepAt L b).after k = j by rw [← Hl0.out]; exact hje)
                clear a0 j0 j1 hje
                cases hbit : m'.testBit j
                · have t1 := mask_no0 (m := m') (b := j) (by omega) (by omega) hbit
                  have Hor := Lib.hid (mask_or (m := m') (b := j) (by omega) (by omega))
                  have hmo : m' ||| 2 ^ j < 512 := Nat.or_lt_two_pow (n := 9) (by omega) (Nat.pow_lt_pow_right (by omega) (by omega))
                  have HB2 := Lib.hid (Hbi.out.add Hbs.out (by rw [← Hl0.out]; exact hkl) Hje.out hjl)
                  have hz := zer_or m' j hbit L.length
                  rw [if_pos hjl] at hz
                  go_wp2_with (at_builtin; refine wpList_append_qu _ rfl (.tmp 51) (.tmp 53) _ rfl w2.heap.size 2 i0 _ 8 Try.underlying29 hi hz0 hz1 hz2 rfl _ Q'.length (intsRow Q') rfl (Hq'.out.below ((Below.refl _ _).alloc (Nat.le_refl _) _)) ⟨wx.heap.size, 0, none⟩ 1 (.int .i64 (j : Int)) rfl ((Blk.new wx _ _).cell 0) rfl (by unfold maxLen; omega) (by omega) (by simp; omega) ?_; intro g9 o9 c9 w9 hq9 hg9)
                  have b9 : Below w2.heap.size w2 w9 := (hb'.alloc hsz' _).grown hg9 (by simp; omega) (fun q hq => (Hq'.out.lt q hq).1)
                  have Hq9 := Lib.hid hq9
                  clear hq9 hg9
                  refine ⟨?_, ?measure1⟩
                  repeat apply Exists.intro
                  refine ⟨?rel1, rfl⟩
                  case rel1 =>
                    refine ⟨k + 1, m' ||| 2 ^ j, Q' ++ [(j : Int)], g9, o9, c9, by omega, by go_num, valI Hor.out, ?_, ?_, HB2.out, hmo, by simp; omega, b9⟩
                    · rw [List.length_append]; rfl
                    · rw [List.length_append, intsRow_append]; exact Hq9.out
                  case measure1 => simp [intOf]; omega
                · have t1 := mask_yes0 (m := m') (b := j) (by omega) (by omega) hbit
                  have HB2 := Lib.hid (Hbi.out.old Hje.out hbit)
                  go_wp2
                  go_roundw
                  case rel => exact ⟨k + 1, m', Q', g', o', c', by omega, by go_num, rfl, rfl, Hq'.out, HB2.out, hm', hsum', hb'⟩
                  case measure => simp [intOf]; omega
              · have hke : k = l.length := by omega
                have HF := Lib.hid (show Bfs L s m' Q' from (by have := Hbi.out; rw [hke, Hl0.out] at this; exact this.fin))
                have HR9 := Hr9.out
                go_wp2
                go_roundw
                case rel => exact ⟨m', Q', g', o', c', rfl, rfl, Hq'.out, HF.out, hm', by first | omega | (simp at hsum HR9; omega), hb'⟩
                case measure => simp [intOf, vLen] at hsum ⊢; omega

end Go.Proofs.Ytecfkomijaakhaa
