/- The walk of MergeStocks in the reference. Printed by gen_merges.py. -/
import Derived.Test.YtngphnfbfednnaaMrgM
import Derived.Test.YtngphnfbfednnaaCode
namespace Go.Proofs.Ytngphnfbfednnaa
open Go.RowKit

theorem Rd.cut {w : World} {B n c q : Nat} {A : Option Addr} {xs : List Value} (h : Rd w B 5 A n xs) (hq : q ≤ n) (hc : n ≤ c) : Rd w B 5 (if c = q then A else Option.map (fun x => x.add (q * 5)) A) (n - q) (xs.drop (q * 5)) := by
  refine ⟨by rw [List.length_drop, h.1, Nat.sub_mul], fun hn => ?_⟩
  obtain ⟨g, o, rfl, hb, hc'⟩ := h.2 (by omega)
  rw [if_neg (by omega)]
  refine ⟨g, o + q * 5, by simp [Addr.add], hb, fun j u hu => ?_⟩
  rw [List.getElem?_drop] at hu
  rw [Nat.add_assoc]; exact hc' _ u hu
theorem cut_addr (go oo q c : Nat) : (if c = q then some (⟨go, oo, none⟩ : Addr) else Option.map (fun x : Addr => x.add (q * 5)) (some (⟨go, oo, none⟩ : Addr))) = (if c = q then some (⟨go, oo, none⟩ : Addr) else some ⟨go, oo + q * 5, none⟩) := by
  by_cases h : q * 5 = 0
  · simp [Addr.add, h]
  · simp [Addr.add, h]
theorem binRow_ins (O : List Bin) (y : Bin) : ∀ q, q ≤ O.length → binRow (O.take q ++ y :: O.drop q) = (binRow O).take (q * 5) ++ binCells y ++ (binRow O).drop (q * 5) := by
  induction O with
  | nil => intro q hq; have : q = 0 := by simpa using hq
           subst this; simp [binRow]
  | cons x xs ih =>
    intro q hq
    cases q with
    | zero => simp [binRow]
    | succ q =>
      have h := ih q (by simpa using hq)
      rw [List.take_succ_cons, List.drop_succ_cons, List.cons_append, binRow_cons, h, binRow_cons, show (q + 1) * 5 = q * 5 + 1 + 1 + 1 + 1 + 1 by omega]
      simp only [List.take_succ_cons, List.drop_succ_cons, List.cons_append]

set_option maxHeartbeats 16000000 in
set_option maxRecDepth 100000 in
theorem specMergeStocks_any (w : World) (A : List Bin) (v : Value) (B : List Bin) (u : Value) (hv : Sl w 5 v A.length (binRow A)) (hf : binFit A) (hn : A.length ≤ 4194304) (hu : Sl w 5 u B.length (binRow B)) (hg : binFit B) (hm : B.length ≤ 4194304) :
    Calls Try.prog 22 #[v, u] w (RetSC w.heap.size 58 5 binRow (mergeF A B) w) := by
  have Hv := Lib.hid hv
  have Hu := Lib.hid hu
  have Hf := Lib.hid hf
  have Hg := Lib.hid hg
  clear hv hu hf hg
  cases h1 : isStock A
  · have H := Lib.hid (show mergeF A B = ([], 1) by simp [mergeF, h1])
    go_enter Try.func22, Try.ntmps22
    go_wp2_with fail
    refine (specIsStock_any w A _ Hv.out Hf.out hn).mono ?_
    rintro e w2 ⟨rfl, hb2⟩
    rw [h1]
    go_wp2
    go_ret2
    exact RetSC.err H.out rfl hb2
  · cases h2 : isStock B
    · have H := Lib.hid (show mergeF A B = ([], 1) by simp [mergeF, h1, h2])
      go_enter Try.func22, Try.ntmps22
      go_wp2_with fail
      refine (specIsStock_any w A _ Hv.out Hf.out hn).mono ?_
      rintro e w2 ⟨rfl, hb2⟩
      rw [h1]
      go_wp2_with fail
      refine (specIsStock_any w2 B _ (Hu.out.below hb2) Hg.out hm).mono ?_
      rintro e w3 ⟨rfl, hb3⟩
      rw [h2]
      go_wp2
      go_ret2
      exact RetSC.err H.out rfl (hb2.trans (hb3.mono hb2.size))
    · obtain ⟨i0, hi, hz0, hz1, hz2⟩ := info_parts Try.infoBin
      go_enter Try.func22, Try.ntmps22
      go_wp2_with fail
      refine (specIsStock_any w A _ Hv.out Hf.out hn).mono ?_
      rintro e w2 ⟨rfl, hb2⟩
      rw [h1]
      go_wp2_with fail
      refine (specIsStock_any w2 B _ (Hu.out.below hb2) Hg.out hm).mono ?_
      rintro e w3 ⟨rfl, hb3⟩
      rw [h2]
      have b3 := hb2.trans (hb3.mono hb2.size)
      have s3 := b3.size
      have hA20 := isStock_le h1
      have hB20 := isStock_le h2
      have Hb3 := Lib.hid b3
      obtain ⟨Av, cv, rfl, hav, hcv, _⟩ := Hv.out
      obtain ⟨Au, cu, rfl, hau, hcu, _⟩ := Hu.out
      have Hr := Lib.hid (Sl.rd (Hv.out.below b3))
      unfold maxLen at hcv hcu
      clear hb2 hb3 b3
      go_wp2_with (at_builtin; refine wpList_append_sl _ rfl (.tmp 17) (.tmp 18) _ rfl w.heap.size 58 i0 _ 5 48 Try.underlying25 hi hz0 hz1 hz2 rfl (by omega) (.slice (some ⟨w3.heap.size, 0, none⟩) 0 0) 0 [] rfl (own_empty w3 _ _ s3) Av A.length cv (binRow A) rfl (Hr.out.alloc' _) (binRow_one A) (by unfold maxLen; omega) (by omega) (by simp; omega) ?_; intro A9 c9 w9 ho9 hg9 hor9)
      simp only [Nat.zero_add, List.nil_append] at ho9
      have Hb9 := Lib.hid ((Hb3.out.alloc s3 (.cells #[] 58)).grown hg9 (by simp; omega) (fun q hq => by simp [Value.ownBlock] at hq; omega))
      have Ho9 := Lib.hid ho9
      clear ho9 hg9 hor9 Hr
      go_wp2
      go_loopw [6, 7] (fun q i wr => ∃ (O : List Bin) (Ao : Option Addr) (co k : Nat), q = .slice Ao O.length co ∧ i = .int .i64 k ∧ k ≤ B.length ∧ O.length ≤ 20 + k ∧ O = mergeGo A (B.take k) ∧ wr.ownsRow w.heap.size 58 5 (.slice Ao O.length co) O.length (binRow O) ∧ Below w.heap.size w wr) (fun _ i _ => B.length - (intOf i).toNat)
      case atStart => exact ⟨A, A9, c9, 0, by simp, rfl, Nat.zero_le _, by omega, by rw [List.take_zero, merge_nil2], by simpa using Ho9.out, Hb9.out⟩
      case round =>
        clear Ho9 Hb9 Hb3
        obtain ⟨O, Ao, co, k, rfl, rfl, hk, hOk, hO, ho, hbw⟩ := hrel
        have HO := Lib.hid hO
        have Ho := Lib.hid ho
        have Hbw := Lib.hid hbw
        have hszr := hbw.size
        clear hO ho hbw
        by_cases hlt : k < B.length
        · skip
          have HMT := Lib.hid (merge_take (A := A) h2 hlt)
          have HBD := Lib.hid (merge_bound h1 h2 k hk)
          have hy := binOk_iff.1 (stock_oks h2 (binAt B k) (by rw [binAt_lt hlt]; exact List.getElem_mem hlt))
          have HY := Lib.hid hy
          clear hy
          obtain ⟨y, hye⟩ : ∃ y, y = binAt B k := ⟨_, rfl⟩
          obtain ⟨gy, oy, rfl, hgy, y0, y1, y2, y3, y4⟩ := (Sl.rd (Hu.out.below Hbw.out)).bin hlt
          rw [← hye] at y0 y1 y2 y3 y4 HMT HY
          have j0 : (0 : Int) ≤ (k : Int) := Int.natCast_nonneg _
          have j1 : (k : Int) < (B.length : Int) := by omega
          have HYE := Lib.hid hye
          clear hye
          go_wp2
          rename World => wo
          go_loopw [8] (fun a wq => ∃ q : Nat, a = .int .i64 q ∧ q ≤ O.length ∧ (∀ j, j < q → codeLt (binAt O j).code y.code = true) ∧ Below wo.heap.size wo wq) (fun a _ => O.length - (intOf a).toNat)
          case atStart => exact ⟨0, rfl, Nat.zero_le _, fun j hj => by omega, Below.refl _ _⟩
          case round =>
            obtain ⟨q, rfl, hq, hall, hbq⟩ := hrel
            have Hall := Lib.hid hall
            have Hbq := Lib.hid hbq
            clear hall hbq
            have Hbt := Lib.hid (Hbw.out.trans (Hbq.out.mono hszr))
            have hszt := Hbt.out.size
            have Hot := Lib.hid (own_below Ho.out Hbq.out)
            have z0 := (Hbq.out.cell (p := ⟨gy, oy + k * 5, none⟩) hgy).trans y0
            have z1 := (Hbq.out.cell (p := ⟨gy, oy + k * 5 + 1, none⟩) hgy).trans y1
            have z2 := (Hbq.out.cell (p := ⟨gy, oy + k * 5 + 2, none⟩) hgy).trans y2
            have z3 := (Hbq.out.cell (p := ⟨gy, oy + k * 5 + 3, none⟩) hgy).trans y3
            have z4 := (Hbq.out.cell (p := ⟨gy, oy + k * 5 + 4, none⟩) hgy).trans y4
            have hgyt : gy < wr.heap.size := block_lt_cell z0
            by_cases hql : q < O.length
            · skip
              obtain ⟨go, oo, rfl, hgo, x0, x1, x2, x3, x4⟩ := (Rd.of_own Hot.out).bin hql
              have jq0 : (0 : Int) ≤ (q : Int) := Int.natCast_nonneg _
              have jq1 : (q : Int) < (O.length : Int) := by omega
              by_cases hc : codeLt (binAt O q).code y.code = true
              · have t0 : Op.bytesLess (binAt O q).code.toList y.code.toList = true := hc
                have HC := Lib.hid hc
                clear hc
                go_wp2
                refine wp_region_held_drew (S := (fun w' => w'.cell? ⟨go, oo + q * 5, none⟩ = some (.string (binAt O q).code) ∧ w'.cell? ⟨gy, oy + k * 5, none⟩ = some (.string y.code))) (by kernel_rfl) ?_ (fun hHeld => ?_)
                · (try dsimp only); first | (go_split_ands; exact ⟨by assumption, by assumption⟩) | (go_split_ands; refine ⟨?_, ?_⟩ <;> assumption) | go_keep
                refine wpAnyH_take (i := 0) (v := ?_) rfl (by kernel_rfl) (by kernel_rfl) (by kernel_rfl) (fun _ _ _ h => h) (Or.inl ⟨by rfl, ?_⟩) (by assumption) ?_
                rotate_left
                · (intro w hSw; (try dsimp only at hSw); go_simp) <;> with_reducible rfl
                try simp only [Act.put, List.setIfInBounds_toArray, List.set_cons_zero, List.set_cons_succ, List.getElem_toArray, List.getElem_cons_succ, List.getElem_cons_zero]
                refine wpAnyH_take (i := 1) (v := ?_) rfl (by kernel_rfl) (by kernel_rfl) (by kernel_rfl) (fun _ _ _ h => h) (Or.inl ⟨by rfl, ?_⟩) (by assumption) ?_
                rotate_left
                · (intro w hSw; (try dsimp only at hSw); go_simp) <;> with_reducible rfl
                try simp only [Act.put, List.setIfInBounds_toArray, List.set_cons_zero, List.set_cons_succ, List.getElem_toArray, List.getElem_cons_succ, List.getElem_cons_zero]
                refine wpAnyH_take (i := 2) (v := ?_) rfl (by kernel_rfl) (by kernel_rfl) (by kernel_rfl) (fun _ _ _ h => h) (Or.inl ⟨by rfl, ?_⟩) (by assumption) ?_
                rotate_left
                · (intro w hSw; (try dsimp only at hSw); go_simp) <;> with_reducible rfl
                try simp only [Act.put, List.setIfInBounds_toArray, List.set_cons_zero, List.set_cons_succ, List.getElem_toArray, List.getElem_cons_succ, List.getElem_cons_zero]
                refine wpAnyH_take (i := 3) (v := ?_) rfl (by kernel_rfl) (by kernel_rfl) (by kernel_rfl) (fun _ _ _ h => h) (Or.inl ⟨by rfl, ?_⟩) (by assumption) ?_
                rotate_left
                · (intro w hSw; (try dsimp only at hSw); go_simp) <;> with_reducible rfl
                try simp only [Act.put, List.setIfInBounds_toArray, List.set_cons_zero, List.set_cons_succ, List.getElem_toArray, List.getElem_cons_succ, List.getElem_cons_zero]
                refine wpAnyH_take (i := 4) (v := ?_) rfl (by kernel_rfl) (by kernel_rfl) (by kernel_rfl) (fun _ _ _ h => h) (Or.inl ⟨by rfl, ?_⟩) (by assumption) ?_
                rotate_left
                · (intro w hSw; (try dsimp only at hSw); go_simp) <;> with_reducible rfl
                try simp only [Act.put, List.setIfInBounds_toArray, List.set_cons_zero, List.set_cons_succ, List.getElem_toArray, List.getElem_cons_succ, List.getElem_cons_zero]
                refine wpAnyH_take (i := 5) (v := ?_) rfl (by kernel_rfl) (by kernel_rfl) (by kernel_rfl) (fun _ _ _ h => h) (Or.inl ⟨by rfl, ?_⟩) (by assumption) ?_
                rotate_left
                · (intro w hSw; (try dsimp only at hSw); go_simp) <;> with_reducible rfl
                try simp only [Act.put, List.setIfInBounds_toArray, List.set_cons_zero, List.set_cons_succ, List.getElem_toArray, List.getElem_cons_succ, List.getElem_cons_zero]
                refine wpAnyH_take (i := 6) (v := ?_) rfl (by kernel_rfl) (by kernel_rfl) (by kernel_rfl) (fun _ _ _ h => h) (Or.inl ⟨by rfl, ?_⟩) (by assumption) ?_
                rotate_left
                · (intro w hSw; (try dsimp only at hSw); go_simp) <;> with_reducible rfl
                try simp only [Act.put, List.setIfInBounds_toArray, List.set_cons_zero, List.set_cons_succ, List.getElem_toArray, List.getElem_cons_succ, List.getElem_cons_zero]
                refine wpAnyH_take (i := 7) (v := ?_) rfl (by kernel_rfl) (by kernel_rfl) (by kernel_rfl) (fun _ _ _ h => h) (Or.inl ⟨by rfl, ?_⟩) (by assumption) ?_
                rotate_left
                · (intro w hSw; (try dsimp only at hSw); go_simp) <;> with_reducible rfl
                try simp only [Act.put, List.setIfInBounds_toArray, List.set_cons_zero, List.set_cons_succ, List.getElem_toArray, List.getElem_cons_succ, List.getElem_cons_zero]
                refine wpAnyH_take (i := 8) (v := ?_) rfl (by kernel_rfl) (by kernel_rfl) (by kernel_rfl) (fun _ _ _ h => h) (Or.inl ⟨by rfl, ?_⟩) (by assumption) ?_
                rotate_left
                · (intro w hSw; (try dsimp only at hSw); go_simp) <;> with_reducible rfl
                try simp only [Act.put, List.setIfInBounds_toArray, List.set_cons_zero, List.set_cons_succ, List.getElem_toArray, List.getElem_cons_succ, List.getElem_cons_zero]
                refine wpAnyH_take (i := 9) (v := ?_) rfl (by kernel_rfl) (by kernel_rfl) (by kernel_rfl) (fun _ _ _ h => h) (Or.inl ⟨by rfl, ?_⟩) (by assumption) ?_
                rotate_left
                · (intro w hSw; (try dsimp only at hSw); go_simp) <;> with_reducible rfl
                try simp only [Act.put, List.setIfInBounds_toArray, List.set_cons_zero, List.set_cons_succ, List.getElem_toArray, List.getElem_cons_succ, List.getElem_cons_zero]
                refine wpAnyH_take (i := 10) (v := ?_) rfl (by kernel_rfl) (by kernel_rfl) (by kernel_rfl) (fun _ _ _ h => h) (Or.inl ⟨by rfl, ?_⟩) (by assumption) ?_
                rotate_left
                · (intro w hSw; (try dsimp only at hSw); go_simp) <;> with_reducible rfl
                try simp only [Act.put, List.setIfInBounds_toArray, List.set_cons_zero, List.set_cons_succ, List.getElem_toArray, List.getElem_cons_succ, List.getElem_cons_zero]
                refine wpAnyH_take (i := 11) (v := ?_) rfl (by kernel_rfl) (by kernel_rfl) (by kernel_rfl) (fun _ _ _ h => h) (Or.inl ⟨by rfl, ?_⟩) (by assumption) ?_
                rotate_left
                · (intro w hSw; (try dsimp only at hSw); go_simp) <;> with_reducible rfl
                try simp only [Act.put, List.setIfInBounds_toArray, List.set_cons_zero, List.set_cons_succ, List.getElem_toArray, List.getElem_cons_succ, List.getElem_cons_zero]
                refine wpAnyH_take (i := 12) (v := ?_) rfl (by kernel_rfl) (by kernel_rfl) (by kernel_rfl) (fun _ _ _ h => h) (Or.inl ⟨by rfl, ?_⟩) (by assumption) ?_
                rotate_left
                · (intro w hSw; (try dsimp only at hSw); go_simp) <;> with_reducible rfl
                try simp only [Act.put, List.setIfInBounds_toArray, List.set_cons_zero, List.set_cons_succ, List.getElem_toArray, List.getElem_cons_succ, List.getElem_cons_zero]
                refine wpAnyH_take (i := 13) (v := ?_) rfl (by kernel_rfl) (by kernel_rfl) (by kernel_rfl) (fun _ _ _ h => h) (Or.inl ⟨by rfl, ?_⟩) (by assumption) ?_
                rotate_left
                · (intro w hSw; (try dsimp only at hSw); go_simp) <;> with_reducible rfl
                try simp only [Act.put, List.setIfInBounds_toArray, List.set_cons_zero, List.set_cons_succ, List.getElem_toArray, List.getElem_cons_succ, List.getElem_cons_zero]
                refine wpAnyH_take (i := 14) (v := ?_) rfl (by kernel_rfl) (by kernel_rfl) (by kernel_rfl) (fun _ _ _ h => h) (Or.inl ⟨by rfl, ?_⟩) (by assumption) ?_
                rotate_left
                · (intro w hSw; (try dsimp only at hSw); go_simp) <;> with_reducible rfl
                try simp only [Act.put, List.setIfInBounds_toArray, List.set_cons_zero, List.set_cons_succ, List.getElem_toArray, List.getElem_cons_succ, List.getElem_cons_zero]
                refine wpAnyH_take (i := 15) (v := ?_) rfl (by kernel_rfl) (by kernel_rfl) (by kernel_rfl) (fun _ _ _ h => h) (Or.inl ⟨by rfl, ?_⟩) (by assumption) ?_
                rotate_left
                · (intro w hSw; (try dsimp only at hSw); go_simp) <;> with_reducible rfl
                try simp only [Act.put, List.setIfInBounds_toArray, List.set_cons_zero, List.set_cons_succ, List.getElem_toArray, List.getElem_cons_succ, List.getElem_cons_zero]
                refine wpAnyH_take (i := 16) (v := ?_) rfl (by kernel_rfl) (by kernel_rfl) (by kernel_rfl) (fun _ _ _ h => h) (Or.inl ⟨by rfl, ?_⟩) (by assumption) ?_
                rotate_left
                · (intro w hSw; (try dsimp only at hSw); go_simp) <;> with_reducible rfl
                try simp only [Act.put, List.setIfInBounds_toArray, List.set_cons_zero, List.set_cons_succ, List.getElem_toArray, List.getElem_cons_succ, List.getElem_cons_zero]
                refine wpAnyH_done (by kernel_rfl) ?_ _
                clear hHeld
                go_wp2
                go_roundw
                case rel => exact ⟨q + 1, by go_num, by omega, fun j hj => by
                  by_cases e : j = q
                  · rw [e]; exact HC.out
                  · exact Hall.out j (by omega), Hbq.out.drew⟩
                case measure => simp [intOf]; omega
              · have t0 : Op.bytesLess (binAt O q).code.toList y.code.toList = false := by simpa [codeLt] using hc
                have HC := Lib.hid hc
                clear hc
                by_cases he : (binAt O q).code = y.code
                · have t1 := beq_str_of he
                  have HE := Lib.hid he
                  clear he
                  go_wp2
                  refine wp_region_held_drew (S := (fun w' => w'.cell? ⟨go, oo + q * 5, none⟩ = some (.string (binAt O q).code) ∧ w'.cell? ⟨gy, oy + k * 5, none⟩ = some (.string y.code))) (by kernel_rfl) ?_ (fun hHeld => ?_)
                  · (try dsimp only); first | (go_split_ands; exact ⟨by assumption, by assumption⟩) | (go_split_ands; refine ⟨?_, ?_⟩ <;> assumption) | go_keep
                  refine wpAnyH_take (i := 0) (v := ?_) rfl (by kernel_rfl) (by kernel_rfl) (by kernel_rfl) (fun _ _ _ h => h) (Or.inl ⟨by rfl, ?_⟩) (by assumption) ?_
                  rotate_left
                  · (intro w hSw; (try dsimp only at hSw); go_simp) <;> with_reducible rfl
                  try simp only [Act.put, List.setIfInBounds_toArray, List.set_cons_zero, List.set_cons_succ, List.getElem_toArray, List.getElem_cons_succ, List.getElem_cons_zero]
                  refine wpAnyH_take (i := 1) (v := ?_) rfl (by kernel_rfl) (by kernel_rfl) (by kernel_rfl) (fun _ _ _ h => h) (Or.inl ⟨by rfl, ?_⟩) (by assumption) ?_
                  rotate_left
                  · (intro w hSw; (try dsimp only at hSw); go_simp) <;> with_reducible rfl
                  try simp only [Act.put, List.setIfInBounds_toArray, List.set_cons_zero, List.set_cons_succ, List.getElem_toArray, List.getElem_cons_succ, List.getElem_cons_zero]
                  refine wpAnyH_take (i := 2) (v := ?_) rfl (by kernel_rfl) (by kernel_rfl) (by kernel_rfl) (fun _ _ _ h => h) (Or.inl ⟨by rfl, ?_⟩) (by assumption) ?_
                  rotate_left
                  · (intro w hSw; (try dsimp only at hSw); go_simp) <;> with_reducible rfl
                  try simp only [Act.put, List.setIfInBounds_toArray, List.set_cons_zero, List.set_cons_succ, List.getElem_toArray, List.getElem_cons_succ, List.getElem_cons_zero]
                  refine wpAnyH_take (i := 3) (v := ?_) rfl (by kernel_rfl) (by kernel_rfl) (by kernel_rfl) (fun _ _ _ h => h) (Or.inl ⟨by rfl, ?_⟩) (by assumption) ?_
                  rotate_left
                  · (intro w hSw; (try dsimp only at hSw); go_simp) <;> with_reducible rfl
                  try simp only [Act.put, List.setIfInBounds_toArray, List.set_cons_zero, List.set_cons_succ, List.getElem_toArray, List.getElem_cons_succ, List.getElem_cons_zero]
                  refine wpAnyH_take (i := 4) (v := ?_) rfl (by kernel_rfl) (by kernel_rfl) (by kernel_rfl) (fun _ _ _ h => h) (Or.inl ⟨by rfl, ?_⟩) (by assumption) ?_
                  rotate_left
                  · (intro w hSw; (try dsimp only at hSw); go_simp) <;> with_reducible rfl
                  try simp only [Act.put, List.setIfInBounds_toArray, List.set_cons_zero, List.set_cons_succ, List.getElem_toArray, List.getElem_cons_succ, List.getElem_cons_zero]
                  refine wpAnyH_take (i := 5) (v := ?_) rfl (by kernel_rfl) (by kernel_rfl) (by kernel_rfl) (fun _ _ _ h => h) (Or.inl ⟨by rfl, ?_⟩) (by assumption) ?_
                  rotate_left
                  · (intro w hSw; (try dsimp only at hSw); go_simp) <;> with_reducible rfl
                  try simp only [Act.put, List.setIfInBounds_toArray, List.set_cons_zero, List.set_cons_succ, List.getElem_toArray, List.getElem_cons_succ, List.getElem_cons_zero]
                  refine wpAnyH_take (i := 6) (v := ?_) rfl (by kernel_rfl) (by kernel_rfl) (by kernel_rfl) (fun _ _ _ h => h) (Or.inl ⟨by rfl, ?_⟩) (by assumption) ?_
                  rotate_left
                  · (intro w hSw; (try dsimp only at hSw); go_simp) <;> with_reducible rfl
                  try simp only [Act.put, List.setIfInBounds_toArray, List.set_cons_zero, List.set_cons_succ, List.getElem_toArray, List.getElem_cons_succ, List.getElem_cons_zero]
                  refine wpAnyH_take (i := 7) (v := ?_) rfl (by kernel_rfl) (by kernel_rfl) (by kernel_rfl) (fun _ _ _ h => h) (Or.inl ⟨by rfl, ?_⟩) (by assumption) ?_
                  rotate_left
                  · (intro w hSw; (try dsimp only at hSw); go_simp) <;> with_reducible rfl
                  try simp only [Act.put, List.setIfInBounds_toArray, List.set_cons_zero, List.set_cons_succ, List.getElem_toArray, List.getElem_cons_succ, List.getElem_cons_zero]
                  refine wpAnyH_take (i := 8) (v := ?_) rfl (by kernel_rfl) (by kernel_rfl) (by kernel_rfl) (fun _ _ _ h => h) (Or.inl ⟨by rfl, ?_⟩) (by assumption) ?_
                  rotate_left
                  · (intro w hSw; (try dsimp only at hSw); go_simp) <;> with_reducible rfl
                  try simp only [Act.put, List.setIfInBounds_toArray, List.set_cons_zero, List.set_cons_succ, List.getElem_toArray, List.getElem_cons_succ, List.getElem_cons_zero]
                  refine wpAnyH_take (i := 9) (v := ?_) rfl (by kernel_rfl) (by kernel_rfl) (by kernel_rfl) (fun _ _ _ h => h) (Or.inl ⟨by rfl, ?_⟩) (by assumption) ?_
                  rotate_left
                  · (intro w hSw; (try dsimp only at hSw); go_simp) <;> with_reducible rfl
                  try simp only [Act.put, List.setIfInBounds_toArray, List.set_cons_zero, List.set_cons_succ, List.getElem_toArray, List.getElem_cons_succ, List.getElem_cons_zero]
                  refine wpAnyH_take (i := 10) (v := ?_) rfl (by kernel_rfl) (by kernel_rfl) (by kernel_rfl) (fun _ _ _ h => h) (Or.inl ⟨by rfl, ?_⟩) (by assumption) ?_
                  rotate_left
                  · (intro w hSw; (try dsimp only at hSw); go_simp) <;> with_reducible rfl
                  try simp only [Act.put, List.setIfInBounds_toArray, List.set_cons_zero, List.set_cons_succ, List.getElem_toArray, List.getElem_cons_succ, List.getElem_cons_zero]
                  refine wpAnyH_take (i := 11) (v := ?_) rfl (by kernel_rfl) (by kernel_rfl) (by kernel_rfl) (fun _ _ _ h => h) (Or.inl ⟨by rfl, ?_⟩) (by assumption) ?_
                  rotate_left
                  · (intro w hSw; (try dsimp only at hSw); go_simp) <;> with_reducible rfl
                  try simp only [Act.put, List.setIfInBounds_toArray, List.set_cons_zero, List.set_cons_succ, List.getElem_toArray, List.getElem_cons_succ, List.getElem_cons_zero]
                  refine wpAnyH_take (i := 12) (v := ?_) rfl (by kernel_rfl) (by kernel_rfl) (by kernel_rfl) (fun _ _ _ h => h) (Or.inl ⟨by rfl, ?_⟩) (by assumption) ?_
                  rotate_left
                  · (intro w hSw; (try dsimp only at hSw); go_simp) <;> with_reducible rfl
                  try simp only [Act.put, List.setIfInBounds_toArray, List.set_cons_zero, List.set_cons_succ, List.getElem_toArray, List.getElem_cons_succ, List.getElem_cons_zero]
                  refine wpAnyH_take (i := 13) (v := ?_) rfl (by kernel_rfl) (by kernel_rfl) (by kernel_rfl) (fun _ _ _ h => h) (Or.inl ⟨by rfl, ?_⟩) (by assumption) ?_
                  rotate_left
                  · (intro w hSw; (try dsimp only at hSw); go_simp) <;> with_reducible rfl
                  try simp only [Act.put, List.setIfInBounds_toArray, List.set_cons_zero, List.set_cons_succ, List.getElem_toArray, List.getElem_cons_succ, List.getElem_cons_zero]
                  refine wpAnyH_take (i := 14) (v := ?_) rfl (by kernel_rfl) (by kernel_rfl) (by kernel_rfl) (fun _ _ _ h => h) (Or.inl ⟨by rfl, ?_⟩) (by assumption) ?_
                  rotate_left
                  · (intro w hSw; (try dsimp only at hSw); go_simp) <;> with_reducible rfl
                  try simp only [Act.put, List.setIfInBounds_toArray, List.set_cons_zero, List.set_cons_succ, List.getElem_toArray, List.getElem_cons_succ, List.getElem_cons_zero]
                  refine wpAnyH_take (i := 15) (v := ?_) rfl (by kernel_rfl) (by kernel_rfl) (by kernel_rfl) (fun _ _ _ h => h) (Or.inl ⟨by rfl, ?_⟩) (by assumption) ?_
                  rotate_left
                  · (intro w hSw; (try dsimp only at hSw); go_simp) <;> with_reducible rfl
                  try simp only [Act.put, List.setIfInBounds_toArray, List.set_cons_zero, List.set_cons_succ, List.getElem_toArray, List.getElem_cons_succ, List.getElem_cons_zero]
                  refine wpAnyH_take (i := 16) (v := ?_) rfl (by kernel_rfl) (by kernel_rfl) (by kernel_rfl) (fun _ _ _ h => h) (Or.inl ⟨by rfl, ?_⟩) (by assumption) ?_
                  rotate_left
                  · (intro w hSw; (try dsimp only at hSw); go_simp) <;> with_reducible rfl
                  try simp only [Act.put, List.setIfInBounds_toArray, List.set_cons_zero, List.set_cons_succ, List.getElem_toArray, List.getElem_cons_succ, List.getElem_cons_zero]
                  refine wpAnyH_done (by kernel_rfl) ?_ _
                  clear hHeld
                  go_wp2
                  refine wp_region_held_drew (S := (fun w' => w'.cell? ⟨go, oo + q * 5, none⟩ = some (.string (binAt O q).code) ∧ w'.cell? ⟨gy, oy + k * 5, none⟩ = some (.string y.code))) (by kernel_rfl) ?_ (fun hHeld => ?_)
                  · (try dsimp only); first | (go_split_ands; exact ⟨by assumption, by assumption⟩) | (go_split_ands; refine ⟨?_, ?_⟩ <;> assumption) | go_keep
                  refine wpAnyH_take (i := 0) (v := ?_) rfl (by kernel_rfl) (by kernel_rfl) (by kernel_rfl) (fun _ _ _ h => h) (Or.inl ⟨by rfl, ?_⟩) (by assumption) ?_
                  rotate_left
                  · (intro w hSw; (try dsimp only at hSw); go_simp) <;> with_reducible rfl
                  try simp only [Act.put, List.setIfInBounds_toArray, List.set_cons_zero, List.set_cons_succ, List.getElem_toArray, List.getElem_cons_succ, List.getElem_cons_zero]
                  refine wpAnyH_take (i := 1) (v := ?_) rfl (by kernel_rfl) (by kernel_rfl) (by kernel_rfl) (fun _ _ _ h => h) (Or.inl ⟨by rfl, ?_⟩) (by assumption) ?_
                  rotate_left
                  · (intro w hSw; (try dsimp only at hSw); go_simp) <;> with_reducible rfl
                  try simp only [Act.put, List.setIfInBounds_toArray, List.set_cons_zero, List.set_cons_succ, List.getElem_toArray, List.getElem_cons_succ, List.getElem_cons_zero]
                  refine wpAnyH_take (i := 2) (v := ?_) rfl (by kernel_rfl) (by kernel_rfl) (by kernel_rfl) (fun _ _ _ h => h) (Or.inl ⟨by rfl, ?_⟩) (by assumption) ?_
                  rotate_left
                  · (intro w hSw; (try dsimp only at hSw); go_simp) <;> with_reducible rfl
                  try simp only [Act.put, List.setIfInBounds_toArray, List.set_cons_zero, List.set_cons_succ, List.getElem_toArray, List.getElem_cons_succ, List.getElem_cons_zero]
                  refine wpAnyH_take (i := 3) (v := ?_) rfl (by kernel_rfl) (by kernel_rfl) (by kernel_rfl) (fun _ _ _ h => h) (Or.inl ⟨by rfl, ?_⟩) (by assumption) ?_
                  rotate_left
                  · (intro w hSw; (try dsimp only at hSw); go_simp) <;> with_reducible rfl
                  try simp only [Act.put, List.setIfInBounds_toArray, List.set_cons_zero, List.set_cons_succ, List.getElem_toArray, List.getElem_cons_succ, List.getElem_cons_zero]
                  refine wpAnyH_take (i := 4) (v := ?_) rfl (by kernel_rfl) (by kernel_rfl) (by kernel_rfl) (fun _ _ _ h => h) (Or.inl ⟨by rfl, ?_⟩) (by assumption) ?_
                  rotate_left
                  · (intro w hSw; (try dsimp only at hSw); go_simp) <;> with_reducible rfl
                  try simp only [Act.put, List.setIfInBounds_toArray, List.set_cons_zero, List.set_cons_succ, List.getElem_toArray, List.getElem_cons_succ, List.getElem_cons_zero]
                  refine wpAnyH_take (i := 5) (v := ?_) rfl (by kernel_rfl) (by kernel_rfl) (by kernel_rfl) (fun _ _ _ h => h) (Or.inl ⟨by rfl, ?_⟩) (by assumption) ?_
                  rotate_left
                  · (intro w hSw; (try dsimp only at hSw); go_simp) <;> with_reducible rfl
                  try simp only [Act.put, List.setIfInBounds_toArray, List.set_cons_zero, List.set_cons_succ, List.getElem_toArray, List.getElem_cons_succ, List.getElem_cons_zero]
                  refine wpAnyH_take (i := 6) (v := ?_) rfl (by kernel_rfl) (by kernel_rfl) (by kernel_rfl) (fun _ _ _ h => h) (Or.inl ⟨by rfl, ?_⟩) (by assumption) ?_
                  rotate_left
                  · (intro w hSw; (try dsimp only at hSw); go_simp) <;> with_reducible rfl
                  try simp only [Act.put, List.setIfInBounds_toArray, List.set_cons_zero, List.set_cons_succ, List.getElem_toArray, List.getElem_cons_succ, List.getElem_cons_zero]
                  refine wpAnyH_take (i := 7) (v := ?_) rfl (by kernel_rfl) (by kernel_rfl) (by kernel_rfl) (fun _ _ _ h => h) (Or.inl ⟨by rfl, ?_⟩) (by assumption) ?_
                  rotate_left
                  · (intro w hSw; (try dsimp only at hSw); go_simp) <;> with_reducible rfl
                  try simp only [Act.put, List.setIfInBounds_toArray, List.set_cons_zero, List.set_cons_succ, List.getElem_toArray, List.getElem_cons_succ, List.getElem_cons_zero]
                  refine wpAnyH_take (i := 8) (v := ?_) rfl (by kernel_rfl) (by kernel_rfl) (by kernel_rfl) (fun _ _ _ h => h) (Or.inl ⟨by rfl, ?_⟩) (by assumption) ?_
                  rotate_left
                  · (intro w hSw; (try dsimp only at hSw); go_simp) <;> with_reducible rfl
                  try simp only [Act.put, List.setIfInBounds_toArray, List.set_cons_zero, List.set_cons_succ, List.getElem_toArray, List.getElem_cons_succ, List.getElem_cons_zero]
                  refine wpAnyH_take (i := 9) (v := ?_) rfl (by kernel_rfl) (by kernel_rfl) (by kernel_rfl) (fun _ _ _ h => h) (Or.inl ⟨by rfl, ?_⟩) (by assumption) ?_
                  rotate_left
                  · (intro w hSw; (try dsimp only at hSw); go_simp) <;> with_reducible rfl
                  try simp only [Act.put, List.setIfInBounds_toArray, List.set_cons_zero, List.set_cons_succ, List.getElem_toArray, List.getElem_cons_succ, List.getElem_cons_zero]
                  refine wpAnyH_take (i := 10) (v := ?_) rfl (by kernel_rfl) (by kernel_rfl) (by kernel_rfl) (fun _ _ _ h => h) (Or.inl ⟨by rfl, ?_⟩) (by assumption) ?_
                  rotate_left
                  · (intro w hSw; (try dsimp only at hSw); go_simp) <;> with_reducible rfl
                  try simp only [Act.put, List.setIfInBounds_toArray, List.set_cons_zero, List.set_cons_succ, List.getElem_toArray, List.getElem_cons_succ, List.getElem_cons_zero]
                  refine wpAnyH_take (i := 11) (v := ?_) rfl (by kernel_rfl) (by kernel_rfl) (by kernel_rfl) (fun _ _ _ h => h) (Or.inl ⟨by rfl, ?_⟩) (by assumption) ?_
                  rotate_left
                  · (intro w hSw; (try dsimp only at hSw); go_simp) <;> with_reducible rfl
                  try simp only [Act.put, List.setIfInBounds_toArray, List.set_cons_zero, List.set_cons_succ, List.getElem_toArray, List.getElem_cons_succ, List.getElem_cons_zero]
                  refine wpAnyH_take (i := 12) (v := ?_) rfl (by kernel_rfl) (by kernel_rfl) (by kernel_rfl) (fun _ _ _ h => h) (Or.inl ⟨by rfl, ?_⟩) (by assumption) ?_
                  rotate_left
                  · (intro w hSw; (try dsimp only at hSw); go_simp) <;> with_reducible rfl
                  try simp only [Act.put, List.setIfInBounds_toArray, List.set_cons_zero, List.set_cons_succ, List.getElem_toArray, List.getElem_cons_succ, List.getElem_cons_zero]
                  refine wpAnyH_take (i := 13) (v := ?_) rfl (by kernel_rfl) (by kernel_rfl) (by kernel_rfl) (fun _ _ _ h => h) (Or.inl ⟨by rfl, ?_⟩) (by assumption) ?_
                  rotate_left
                  · (intro w hSw; (try dsimp only at hSw); go_simp) <;> with_reducible rfl
                  try simp only [Act.put, List.setIfInBounds_toArray, List.set_cons_zero, List.set_cons_succ, List.getElem_toArray, List.getElem_cons_succ, List.getElem_cons_zero]
                  refine wpAnyH_take (i := 14) (v := ?_) rfl (by kernel_rfl) (by kernel_rfl) (by kernel_rfl) (fun _ _ _ h => h) (Or.inl ⟨by rfl, ?_⟩) (by assumption) ?_
                  rotate_left
                  · (intro w hSw; (try dsimp only at hSw); go_simp) <;> with_reducible rfl
                  try simp only [Act.put, List.setIfInBounds_toArray, List.set_cons_zero, List.set_cons_succ, List.getElem_toArray, List.getElem_cons_succ, List.getElem_cons_zero]
                  refine wpAnyH_take (i := 15) (v := ?_) rfl (by kernel_rfl) (by kernel_rfl) (by kernel_rfl) (fun _ _ _ h => h) (Or.inl ⟨by rfl, ?_⟩) (by assumption) ?_
                  rotate_left
                  · (intro w hSw; (try dsimp only at hSw); go_simp) <;> with_reducible rfl
                  try simp only [Act.put, List.setIfInBounds_toArray, List.set_cons_zero, List.set_cons_succ, List.getElem_toArray, List.getElem_cons_succ, List.getElem_cons_zero]
                  refine wpAnyH_take (i := 16) (v := ?_) rfl (by kernel_rfl) (by kernel_rfl) (by kernel_rfl) (fun _ _ _ h => h) (Or.inl ⟨by rfl, ?_⟩) (by assumption) ?_
                  rotate_left
                  · (intro w hSw; (try dsimp only at hSw); go_simp) <;> with_reducible rfl
                  try simp only [Act.put, List.setIfInBounds_toArray, List.set_cons_zero, List.set_cons_succ, List.getElem_toArray, List.getElem_cons_succ, List.getElem_cons_zero]
                  refine wpAnyH_done (by kernel_rfl) ?_ _
                  clear hHeld
                  obtain ⟨wn, hwn⟩ : ∃ wn, wn = wr.drew.drew := ⟨_, rfl⟩
                  rw [← hwn]
                  have Hon := Lib.hid (show wn.ownsRow w.heap.size 58 5 (.slice _ O.length co) O.length (binRow O) by rw [hwn]; exact Hot.out)
                  have Hbn : Hid (Below w.heap.size w wn) := by rw [hwn]; exact Lib.hid (Hbt.out.drew.drew)
                  have hszn := Hbn.out.size
                  have zn0 : wn.cell? ⟨gy, oy + k * 5, none⟩ = some (.string y.code) := by rw [hwn]; exact z0
                  have zn1 : wn.cell? ⟨gy, oy + k * 5 + 1, none⟩ = some (.int .i64 y.amount) := by rw [hwn]; exact z1
                  have zn2 : wn.cell? ⟨gy, oy + k * 5 + 2, none⟩ = some (.int .i64 y.reserved) := by rw [hwn]; exact z2
                  have zn3 : wn.cell? ⟨gy, oy + k * 5 + 3, none⟩ = some (.int .i64 y.point) := by rw [hwn]; exact z3
                  have zn4 : wn.cell? ⟨gy, oy + k * 5 + 4, none⟩ = some (.int .i64 y.lot) := by rw [hwn]; exact z4
                  have hgyn : gy < wn.heap.size := block_lt_cell zn0
                  clear hwn
                  have HBO := HBD.out (binAt O q) (by rw [← HO.out, binAt_lt hql]; exact List.getElem_mem hql)
                  have hYY := HY.out
                  have HA1 := Lib.hid (show -1000000 ≤ y.amount ∧ y.amount ≤ 1000000 by omega)
                  have HA2 := Lib.hid (show -1000000 ≤ y.reserved ∧ y.reserved ≤ 1000000 by omega)
                  have HA3 := Lib.hid (show -100000000 ≤ (binAt O q).amount ∧ (binAt O q).amount ≤ 100000000 by omega)
                  have HA4 := Lib.hid (show -100000000 ≤ (binAt O q).reserved ∧ (binAt O q).reserved ≤ 100000000 by omega)
                  have HL4 := Lib.hid (show O.length ≤ 4194304 by omega)
                  clear HBO hYY
                  have HN : Hid (binSet O q ((binAt O q).amount + y.amount) ((binAt O q).reserved + y.reserved) = mergeGo A (B.take (k + 1))) := by
                    rw [HMT.out, ← HO.out, insR_at O y q hq Hall.out (fun _ => by simpa using HC.out), if_pos ⟨hql, HE.out⟩]; exact Lib.hid rfl
                  go_wp2
                  refine wp_region_held_drew (S := (fun w' => w'.cell? ⟨gy, oy + k * 5 + 1, none⟩ = some (.int .i64 y.amount) ∧ w'.cell? ⟨gy, oy + k * 5 + 2, none⟩ = some (.int .i64 y.reserved))) (by kernel_rfl) ?_ (fun hHeld => ?_)
                  · (try dsimp only); first | (go_split_ands; exact ⟨by assumption, by assumption⟩) | (go_split_ands; refine ⟨?_, ?_⟩ <;> (rw [hb9.cell (by simp; omega)]; assumption)) | go_keep
                  refine wpAnyH_take (i := 0) (v := ?_) rfl (by kernel_rfl) (by kernel_rfl) (by kernel_rfl) (fun _ _ _ h => h) (Or.inl ⟨by rfl, ?_⟩) (by assumption) ?_
                  rotate_left
                  · (intro w hSw; (try dsimp only at hSw); go_simp) <;> with_reducible rfl
                  try simp only [Act.put, List.setIfInBounds_toArray, List.set_cons_zero, List.set_cons_succ, List.getElem_toArray, List.getElem_cons_succ, List.getElem_cons_zero]
                  refine wpAnyH_take (i := 1) (v := ?_) rfl (by kernel_rfl) (by kernel_rfl) (by kernel_rfl) (fun _ _ _ h => h) (Or.inl ⟨by rfl, ?_⟩) (by assumption) ?_
                  rotate_left
                  · (intro w hSw; (try dsimp only at hSw); go_simp) <;> with_reducible rfl
                  try simp only [Act.put, List.setIfInBounds_toArray, List.set_cons_zero, List.set_cons_succ, List.getElem_toArray, List.getElem_cons_succ, List.getElem_cons_zero]
                  refine wpAnyH_take (i := 2) (v := ?_) rfl (by kernel_rfl) (by kernel_rfl) (by kernel_rfl) (fun _ _ _ h => h) (Or.inl ⟨by rfl, ?_⟩) (by assumption) ?_
                  rotate_left
                  · (intro w hSw; (try dsimp only at hSw); go_simp) <;> with_reducible rfl
                  try simp only [Act.put, List.setIfInBounds_toArray, List.set_cons_zero, List.set_cons_succ, List.getElem_toArray, List.getElem_cons_succ, List.getElem_cons_zero]
                  refine wpAnyH_take (i := 3) (v := ?_) rfl (by kernel_rfl) (by kernel_rfl) (by kernel_rfl) (fun _ _ _ h => h) (Or.inl ⟨by rfl, ?_⟩) (by assumption) ?_
                  rotate_left
                  · (intro w hSw; (try dsimp only at hSw); go_simp) <;> with_reducible rfl
                  try simp only [Act.put, List.setIfInBounds_toArray, List.set_cons_zero, List.set_cons_succ, List.getElem_toArray, List.getElem_cons_succ, List.getElem_cons_zero]
                  refine wpAnyH_take (i := 4) (v := ?_) rfl (by kernel_rfl) (by kernel_rfl) (by kernel_rfl) (fun _ _ _ h => h) (Or.inl ⟨by rfl, ?_⟩) (by assumption) ?_
                  rotate_left
                  · (intro w hSw; (try dsimp only at hSw); go_simp) <;> with_reducible rfl
                  try simp only [Act.put, List.setIfInBounds_toArray, List.set_cons_zero, List.set_cons_succ, List.getElem_toArray, List.getElem_cons_succ, List.getElem_cons_zero]
                  refine wpAnyH_take (i := 5) (v := ?_) rfl (by kernel_rfl) (by kernel_rfl) (by kernel_rfl) (fun _ _ _ h => h) (Or.inl ⟨by rfl, ?_⟩) (by assumption) ?_
                  rotate_left
                  · (intro w hSw; (try dsimp only at hSw); go_simp) <;> with_reducible rfl
                  try simp only [Act.put, List.setIfInBounds_toArray, List.set_cons_zero, List.set_cons_succ, List.getElem_toArray, List.getElem_cons_succ, List.getElem_cons_zero]
                  refine wpAnyH_take (i := 6) (v := ?_) rfl (by kernel_rfl) (by kernel_rfl) (by kernel_rfl) (fun _ _ _ h => h) (Or.inl ⟨by rfl, ?_⟩) (by assumption) ?_
                  rotate_left
                  · (intro w hSw; (try dsimp only at hSw); go_simp) <;> with_reducible rfl
                  try simp only [Act.put, List.setIfInBounds_toArray, List.set_cons_zero, List.set_cons_succ, List.getElem_toArray, List.getElem_cons_succ, List.getElem_cons_zero]
                  refine wpAnyH_take (i := 7) (v := ?_) rfl (by kernel_rfl) (by kernel_rfl) (by kernel_rfl) (fun _ _ _ h => h) (Or.inl ⟨by rfl, ?_⟩) (by assumption) ?_
                  rotate_left
                  · (intro w hSw; (try dsimp only at hSw); go_simp) <;> with_reducible rfl
                  try simp only [Act.put, List.setIfInBounds_toArray, List.set_cons_zero, List.set_cons_succ, List.getElem_toArray, List.getElem_cons_succ, List.getElem_cons_zero]
                  refine wpAnyH_take (i := 8) (v := ?_) rfl (by kernel_rfl) (by kernel_rfl) (by kernel_rfl) (fun _ _ _ h => h) (Or.inl ⟨by rfl, ?_⟩) (by assumption) ?_
                  rotate_left
                  · (intro w hSw; (try dsimp only at hSw); go_simp) <;> with_reducible rfl
                  try simp only [Act.put, List.setIfInBounds_toArray, List.set_cons_zero, List.set_cons_succ, List.getElem_toArray, List.getElem_cons_succ, List.getElem_cons_zero]
                  refine wpAnyH_take (i := 9) (v := ?_) rfl (by kernel_rfl) (by kernel_rfl) (by kernel_rfl) (fun _ _ _ h => h) (Or.inl ⟨by rfl, ?_⟩) (by assumption) ?_
                  rotate_left
                  · (intro w hSw; (try dsimp only at hSw); go_simp) <;> with_reducible rfl
                  try simp only [Act.put, List.setIfInBounds_toArray, List.set_cons_zero, List.set_cons_succ, List.getElem_toArray, List.getElem_cons_succ, List.getElem_cons_zero]
                  refine wpAnyH_take (i := 10) (v := ?_) rfl (by kernel_rfl) (by kernel_rfl) (by kernel_rfl) (fun _ _ _ h => h) (Or.inl ⟨by rfl, ?_⟩) (by assumption) ?_
                  rotate_left
                  · (intro w hSw; (try dsimp only at hSw); go_simp) <;> with_reducible rfl
                  try simp only [Act.put, List.setIfInBounds_toArray, List.set_cons_zero, List.set_cons_succ, List.getElem_toArray, List.getElem_cons_succ, List.getElem_cons_zero]
                  refine wpAnyH_take (i := 11) (v := ?_) rfl (by kernel_rfl) (by kernel_rfl) (by kernel_rfl) (fun _ _ _ h => h) (Or.inl ⟨by rfl, ?_⟩) (by assumption) ?_
                  rotate_left
                  · (intro w hSw; (try dsimp only at hSw); go_simp) <;> with_reducible rfl
                  try simp only [Act.put, List.setIfInBounds_toArray, List.set_cons_zero, List.set_cons_succ, List.getElem_toArray, List.getElem_cons_succ, List.getElem_cons_zero]
                  refine wpAnyH_ready (rs := [12]) (by kernel_rfl) (by simp) ?_
                  refine AllReadyH.cons rfl (fun K hK => ?_) AllReadyH.nil
                  try dsimp only [List.getElem_toArray, List.getElem_cons_succ, List.getElem_cons_zero]
                  go_simp
                  refine (specChange_any _ O _ q y.amount y.reserved (Sl.of_own (own_drewN Hon.out _)) HL4.out hql HA1.out HA2.out HA3.out HA4.out).mono ?_
                  rintro e w9 ⟨v9, rfl, ho9, hb9⟩
                  obtain ⟨A9, c9, rfl, _, _⟩ := own_slice ho9
                  go_wp2_with fail
                  refine hK.out _ _ ?_ (fun hHeld => ?_)
                  · (try dsimp only); first | (go_split_ands; exact ⟨by assumption, by assumption⟩) | (go_split_ands; refine ⟨?_, ?_⟩ <;> (rw [hb9.cell (by simp; omega)]; assumption)) | go_keep
                  clear hK K
                  try simp only [Act.put, List.setIfInBounds_toArray, List.set_cons_zero, List.set_cons_succ, List.getElem_toArray, List.getElem_cons_succ, List.getElem_cons_zero]
                  refine wpAnyH_take (i := 13) (v := ?_) rfl (by kernel_rfl) (by kernel_rfl) (by kernel_rfl) (fun _ _ _ h => h) (Or.inl ⟨by rfl, ?_⟩) (by assumption) ?_
                  rotate_left
                  · (intro w hSw; (try dsimp only at hSw); go_simp) <;> with_reducible rfl
                  try simp only [Act.put, List.setIfInBounds_toArray, List.set_cons_zero, List.set_cons_succ, List.getElem_toArray, List.getElem_cons_succ, List.getElem_cons_zero]
                  refine wpAnyH_done (by kernel_rfl) ?_ _
                  have Hb9 := Lib.hid ((below_drewN Hbn.out _).trans (hb9.mono hszn))
                  have Ho9 := Lib.hid (own_base ho9 hszn)
                  clear ho9 hb9 hHeld
                  go_wp2
                  go_roundw
                  case rel => exact ⟨_, A9, c9, k + 1, rfl, by go_num, by omega, by rw [binSet_len]; omega, HN.out, Ho9.out, Hb9.out⟩
                  case measure => simp [intOf]; omega
                · have t1 := beq_str_ne he
                  have HE := Lib.hid he
                  clear he
                  go_wp2
                  refine wp_region_held_drew (S := (fun w' => w'.cell? ⟨go, oo + q * 5, none⟩ = some (.string (binAt O q).code) ∧ w'.cell? ⟨gy, oy + k * 5, none⟩ = some (.string y.code))) (by kernel_rfl) ?_ (fun hHeld => ?_)
                  · (try dsimp only); first | (go_split_ands; exact ⟨by assumption, by assumption⟩) | (go_split_ands; refine ⟨?_, ?_⟩ <;> assumption) | go_keep
                  refine wpAnyH_take (i := 0) (v := ?_) rfl (by kernel_rfl) (by kernel_rfl) (by kernel_rfl) (fun _ _ _ h => h) (Or.inl ⟨by rfl, ?_⟩) (by assumption) ?_
                  rotate_left
                  · (intro w hSw; (try dsimp only at hSw); go_simp) <;> with_reducible rfl
                  try simp only [Act.put, List.setIfInBounds_toArray, List.set_cons_zero, List.set_cons_succ, List.getElem_toArray, List.getElem_cons_succ, List.getElem_cons_zero]
                  refine wpAnyH_take (i := 1) (v := ?_) rfl (by kernel_rfl) (by kernel_rfl) (by kernel_rfl) (fun _ _ _ h => h) (Or.inl ⟨by rfl, ?_⟩) (by assumption) ?_
                  rotate_left
                  · (intro w hSw; (try dsimp only at hSw); go_simp) <;> with_reducible rfl
                  try simp only [Act.put, List.setIfInBounds_toArray, List.set_cons_zero, List.set_cons_succ, List.getElem_toArray, List.getElem_cons_succ, List.getElem_cons_zero]
                  refine wpAnyH_take (i := 2) (v := ?_) rfl (by kernel_rfl) (by kernel_rfl) (by kernel_rfl) (fun _ _ _ h => h) (Or.inl ⟨by rfl, ?_⟩) (by assumption) ?_
                  rotate_left
                  · (intro w hSw; (try dsimp only at hSw); go_simp) <;> with_reducible rfl
                  try simp only [Act.put, List.setIfInBounds_toArray, List.set_cons_zero, List.set_cons_succ, List.getElem_toArray, List.getElem_cons_succ, List.getElem_cons_zero]
                  refine wpAnyH_take (i := 3) (v := ?_) rfl (by kernel_rfl) (by kernel_rfl) (by kernel_rfl) (fun _ _ _ h => h) (Or.inl ⟨by rfl, ?_⟩) (by assumption) ?_
                  rotate_left
                  · (intro w hSw; (try dsimp only at hSw); go_simp) <;> with_reducible rfl
                  try simp only [Act.put, List.setIfInBounds_toArray, List.set_cons_zero, List.set_cons_succ, List.getElem_toArray, List.getElem_cons_succ, List.getElem_cons_zero]
                  refine wpAnyH_take (i := 4) (v := ?_) rfl (by kernel_rfl) (by kernel_rfl) (by kernel_rfl) (fun _ _ _ h => h) (Or.inl ⟨by rfl, ?_⟩) (by assumption) ?_
                  rotate_left
                  · (intro w hSw; (try dsimp only at hSw); go_simp) <;> with_reducible rfl
                  try simp only [Act.put, List.setIfInBounds_toArray, List.set_cons_zero, List.set_cons_succ, List.getElem_toArray, List.getElem_cons_succ, List.getElem_cons_zero]
                  refine wpAnyH_take (i := 5) (v := ?_) rfl (by kernel_rfl) (by kernel_rfl) (by kernel_rfl) (fun _ _ _ h => h) (Or.inl ⟨by rfl, ?_⟩) (by assumption) ?_
                  rotate_left
                  · (intro w hSw; (try dsimp only at hSw); go_simp) <;> with_reducible rfl
                  try simp only [Act.put, List.setIfInBounds_toArray, List.set_cons_zero, List.set_cons_succ, List.getElem_toArray, List.getElem_cons_succ, List.getElem_cons_zero]
                  refine wpAnyH_take (i := 6) (v := ?_) rfl (by kernel_rfl) (by kernel_rfl) (by kernel_rfl) (fun _ _ _ h => h) (Or.inl ⟨by rfl, ?_⟩) (by assumption) ?_
                  rotate_left
                  · (intro w hSw; (try dsimp only at hSw); go_simp) <;> with_reducible rfl
                  try simp only [Act.put, List.setIfInBounds_toArray, List.set_cons_zero, List.set_cons_succ, List.getElem_toArray, List.getElem_cons_succ, List.getElem_cons_zero]
                  refine wpAnyH_take (i := 7) (v := ?_) rfl (by kernel_rfl) (by kernel_rfl) (by kernel_rfl) (fun _ _ _ h => h) (Or.inl ⟨by rfl, ?_⟩) (by assumption) ?_
                  rotate_left
                  · (intro w hSw; (try dsimp only at hSw); go_simp) <;> with_reducible rfl
                  try simp only [Act.put, List.setIfInBounds_toArray, List.set_cons_zero, List.set_cons_succ, List.getElem_toArray, List.getElem_cons_succ, List.getElem_cons_zero]
                  refine wpAnyH_take (i := 8) (v := ?_) rfl (by kernel_rfl) (by kernel_rfl) (by kernel_rfl) (fun _ _ _ h => h) (Or.inl ⟨by rfl, ?_⟩) (by assumption) ?_
                  rotate_left
                  · (intro w hSw; (try dsimp only at hSw); go_simp) <;> with_reducible rfl
                  try simp only [Act.put, List.setIfInBounds_toArray, List.set_cons_zero, List.set_cons_succ, List.getElem_toArray, List.getElem_cons_succ, List.getElem_cons_zero]
                  refine wpAnyH_take (i := 9) (v := ?_) rfl (by kernel_rfl) (by kernel_rfl) (by kernel_rfl) (fun _ _ _ h => h) (Or.inl ⟨by rfl, ?_⟩) (by assumption) ?_
                  rotate_left
                  · (intro w hSw; (try dsimp only at hSw); go_simp) <;> with_reducible rfl
                  try simp only [Act.put, List.setIfInBounds_toArray, List.set_cons_zero, List.set_cons_succ, List.getElem_toArray, List.getElem_cons_succ, List.getElem_cons_zero]
                  refine wpAnyH_take (i := 10) (v := ?_) rfl (by kernel_rfl) (by kernel_rfl) (by kernel_rfl) (fun _ _ _ h => h) (Or.inl ⟨by rfl, ?_⟩) (by assumption) ?_
                  rotate_left
                  · (intro w hSw; (try dsimp only at hSw); go_simp) <;> with_reducible rfl
                  try simp only [Act.put, List.setIfInBounds_toArray, List.set_cons_zero, List.set_cons_succ, List.getElem_toArray, List.getElem_cons_succ, List.getElem_cons_zero]
                  refine wpAnyH_take (i := 11) (v := ?_) rfl (by kernel_rfl) (by kernel_rfl) (by kernel_rfl) (fun _ _ _ h => h) (Or.inl ⟨by rfl, ?_⟩) (by assumption) ?_
                  rotate_left
                  · (intro w hSw; (try dsimp only at hSw); go_simp) <;> with_reducible rfl
                  try simp only [Act.put, List.setIfInBounds_toArray, List.set_cons_zero, List.set_cons_succ, List.getElem_toArray, List.getElem_cons_succ, List.getElem_cons_zero]
                  refine wpAnyH_take (i := 12) (v := ?_) rfl (by kernel_rfl) (by kernel_rfl) (by kernel_rfl) (fun _ _ _ h => h) (Or.inl ⟨by rfl, ?_⟩) (by assumption) ?_
                  rotate_left
                  · (intro w hSw; (try dsimp only at hSw); go_simp) <;> with_reducible rfl
                  try simp only [Act.put, List.setIfInBounds_toArray, List.set_cons_zero, List.set_cons_succ, List.getElem_toArray, List.getElem_cons_succ, List.getElem_cons_zero]
                  refine wpAnyH_take (i := 13) (v := ?_) rfl (by kernel_rfl) (by kernel_rfl) (by kernel_rfl) (fun _ _ _ h => h) (Or.inl ⟨by rfl, ?_⟩) (by assumption) ?_
                  rotate_left
                  · (intro w hSw; (try dsimp only at hSw); go_simp) <;> with_reducible rfl
                  try simp only [Act.put, List.setIfInBounds_toArray, List.set_cons_zero, List.set_cons_succ, List.getElem_toArray, List.getElem_cons_succ, List.getElem_cons_zero]
                  refine wpAnyH_take (i := 14) (v := ?_) rfl (by kernel_rfl) (by kernel_rfl) (by kernel_rfl) (fun _ _ _ h => h) (Or.inl ⟨by rfl, ?_⟩) (by assumption) ?_
                  rotate_left
                  · (intro w hSw; (try dsimp only at hSw); go_simp) <;> with_reducible rfl
                  try simp only [Act.put, List.setIfInBounds_toArray, List.set_cons_zero, List.set_cons_succ, List.getElem_toArray, List.getElem_cons_succ, List.getElem_cons_zero]
                  refine wpAnyH_take (i := 15) (v := ?_) rfl (by kernel_rfl) (by kernel_rfl) (by kernel_rfl) (fun _ _ _ h => h) (Or.inl ⟨by rfl, ?_⟩) (by assumption) ?_
                  rotate_left
                  · (intro w hSw; (try dsimp only at hSw); go_simp) <;> with_reducible rfl
                  try simp only [Act.put, List.setIfInBounds_toArray, List.set_cons_zero, List.set_cons_succ, List.getElem_toArray, List.getElem_cons_succ, List.getElem_cons_zero]
                  refine wpAnyH_take (i := 16) (v := ?_) rfl (by kernel_rfl) (by kernel_rfl) (by kernel_rfl) (fun _ _ _ h => h) (Or.inl ⟨by rfl, ?_⟩) (by assumption) ?_
                  rotate_left
                  · (intro w hSw; (try dsimp only at hSw); go_simp) <;> with_reducible rfl
                  try simp only [Act.put, List.setIfInBounds_toArray, List.set_cons_zero, List.set_cons_succ, List.getElem_toArray, List.getElem_cons_succ, List.getElem_cons_zero]
                  refine wpAnyH_done (by kernel_rfl) ?_ _
                  clear hHeld
                  go_wp2
                  refine wp_region_held_drew (S := (fun w' => w'.cell? ⟨go, oo + q * 5, none⟩ = some (.string (binAt O q).code) ∧ w'.cell? ⟨gy, oy + k * 5, none⟩ = some (.string y.code))) (by kernel_rfl) ?_ (fun hHeld => ?_)
                  · (try dsimp only); first | (go_split_ands; exact ⟨by assumption, by assumption⟩) | (go_split_ands; refine ⟨?_, ?_⟩ <;> assumption) | go_keep
                  refine wpAnyH_take (i := 0) (v := ?_) rfl (by kernel_rfl) (by kernel_rfl) (by kernel_rfl) (fun _ _ _ h => h) (Or.inl ⟨by rfl, ?_⟩) (by assumption) ?_
                  rotate_left
                  · (intro w hSw; (try dsimp only at hSw); go_simp) <;> with_reducible rfl
                  try simp only [Act.put, List.setIfInBounds_toArray, List.set_cons_zero, List.set_cons_succ, List.getElem_toArray, List.getElem_cons_succ, List.getElem_cons_zero]
                  refine wpAnyH_take (i := 1) (v := ?_) rfl (by kernel_rfl) (by kernel_rfl) (by kernel_rfl) (fun _ _ _ h => h) (Or.inl ⟨by rfl, ?_⟩) (by assumption) ?_
                  rotate_left
                  · (intro w hSw; (try dsimp only at hSw); go_simp) <;> with_reducible rfl
                  try simp only [Act.put, List.setIfInBounds_toArray, List.set_cons_zero, List.set_cons_succ, List.getElem_toArray, List.getElem_cons_succ, List.getElem_cons_zero]
                  refine wpAnyH_take (i := 2) (v := ?_) rfl (by kernel_rfl) (by kernel_rfl) (by kernel_rfl) (fun _ _ _ h => h) (Or.inl ⟨by rfl, ?_⟩) (by assumption) ?_
                  rotate_left
                  · (intro w hSw; (try dsimp only at hSw); go_simp) <;> with_reducible rfl
                  try simp only [Act.put, List.setIfInBounds_toArray, List.set_cons_zero, List.set_cons_succ, List.getElem_toArray, List.getElem_cons_succ, List.getElem_cons_zero]
                  refine wpAnyH_take (i := 3) (v := ?_) rfl (by kernel_rfl) (by kernel_rfl) (by kernel_rfl) (fun _ _ _ h => h) (Or.inl ⟨by rfl, ?_⟩) (by assumption) ?_
                  rotate_left
                  · (intro w hSw; (try dsimp only at hSw); go_simp) <;> with_reducible rfl
                  try simp only [Act.put, List.setIfInBounds_toArray, List.set_cons_zero, List.set_cons_succ, List.getElem_toArray, List.getElem_cons_succ, List.getElem_cons_zero]
                  refine wpAnyH_take (i := 4) (v := ?_) rfl (by kernel_rfl) (by kernel_rfl) (by kernel_rfl) (fun _ _ _ h => h) (Or.inl ⟨by rfl, ?_⟩) (by assumption) ?_
                  rotate_left
                  · (intro w hSw; (try dsimp only at hSw); go_simp) <;> with_reducible rfl
                  try simp only [Act.put, List.setIfInBounds_toArray, List.set_cons_zero, List.set_cons_succ, List.getElem_toArray, List.getElem_cons_succ, List.getElem_cons_zero]
                  refine wpAnyH_take (i := 5) (v := ?_) rfl (by kernel_rfl) (by kernel_rfl) (by kernel_rfl) (fun _ _ _ h => h) (Or.inl ⟨by rfl, ?_⟩) (by assumption) ?_
                  rotate_left
                  · (intro w hSw; (try dsimp only at hSw); go_simp) <;> with_reducible rfl
                  try simp only [Act.put, List.setIfInBounds_toArray, List.set_cons_zero, List.set_cons_succ, List.getElem_toArray, List.getElem_cons_succ, List.getElem_cons_zero]
                  refine wpAnyH_take (i := 6) (v := ?_) rfl (by kernel_rfl) (by kernel_rfl) (by kernel_rfl) (fun _ _ _ h => h) (Or.inl ⟨by rfl, ?_⟩) (by assumption) ?_
                  rotate_left
                  · (intro w hSw; (try dsimp only at hSw); go_simp) <;> with_reducible rfl
                  try simp only [Act.put, List.setIfInBounds_toArray, List.set_cons_zero, List.set_cons_succ, List.getElem_toArray, List.getElem_cons_succ, List.getElem_cons_zero]
                  refine wpAnyH_take (i := 7) (v := ?_) rfl (by kernel_rfl) (by kernel_rfl) (by kernel_rfl) (fun _ _ _ h => h) (Or.inl ⟨by rfl, ?_⟩) (by assumption) ?_
                  rotate_left
                  · (intro w hSw; (try dsimp only at hSw); go_simp) <;> with_reducible rfl
                  try simp only [Act.put, List.setIfInBounds_toArray, List.set_cons_zero, List.set_cons_succ, List.getElem_toArray, List.getElem_cons_succ, List.getElem_cons_zero]
                  refine wpAnyH_take (i := 8) (v := ?_) rfl (by kernel_rfl) (by kernel_rfl) (by kernel_rfl) (fun _ _ _ h => h) (Or.inl ⟨by rfl, ?_⟩) (by assumption) ?_
                  rotate_left
                  · (intro w hSw; (try dsimp only at hSw); go_simp) <;> with_reducible rfl
                  try simp only [Act.put, List.setIfInBounds_toArray, List.set_cons_zero, List.set_cons_succ, List.getElem_toArray, List.getElem_cons_succ, List.getElem_cons_zero]
                  refine wpAnyH_take (i := 9) (v := ?_) rfl (by kernel_rfl) (by kernel_rfl) (by kernel_rfl) (fun _ _ _ h => h) (Or.inl ⟨by rfl, ?_⟩) (by assumption) ?_
                  rotate_left
                  · (intro w hSw; (try dsimp only at hSw); go_simp) <;> with_reducible rfl
                  try simp only [Act.put, List.setIfInBounds_toArray, List.set_cons_zero, List.set_cons_succ, List.getElem_toArray, List.getElem_cons_succ, List.getElem_cons_zero]
                  refine wpAnyH_take (i := 10) (v := ?_) rfl (by kernel_rfl) (by kernel_rfl) (by kernel_rfl) (fun _ _ _ h => h) (Or.inl ⟨by rfl, ?_⟩) (by assumption) ?_
                  rotate_left
                  · (intro w hSw; (try dsimp only at hSw); go_simp) <;> with_reducible rfl
                  try simp only [Act.put, List.setIfInBounds_toArray, List.set_cons_zero, List.set_cons_succ, List.getElem_toArray, List.getElem_cons_succ, List.getElem_cons_zero]
                  refine wpAnyH_take (i := 11) (v := ?_) rfl (by kernel_rfl) (by kernel_rfl) (by kernel_rfl) (fun _ _ _ h => h) (Or.inl ⟨by rfl, ?_⟩) (by assumption) ?_
                  rotate_left
                  · (intro w hSw; (try dsimp only at hSw); go_simp) <;> with_reducible rfl
                  try simp only [Act.put, List.setIfInBounds_toArray, List.set_cons_zero, List.set_cons_succ, List.getElem_toArray, List.getElem_cons_succ, List.getElem_cons_zero]
                  refine wpAnyH_take (i := 12) (v := ?_) rfl (by kernel_rfl) (by kernel_rfl) (by kernel_rfl) (fun _ _ _ h => h) (Or.inl ⟨by rfl, ?_⟩) (by assumption) ?_
                  rotate_left
                  · (intro w hSw; (try dsimp only at hSw); go_simp) <;> with_reducible rfl
                  try simp only [Act.put, List.setIfInBounds_toArray, List.set_cons_zero, List.set_cons_succ, List.getElem_toArray, List.getElem_cons_succ, List.getElem_cons_zero]
                  refine wpAnyH_take (i := 13) (v := ?_) rfl (by kernel_rfl) (by kernel_rfl) (by kernel_rfl) (fun _ _ _ h => h) (Or.inl ⟨by rfl, ?_⟩) (by assumption) ?_
                  rotate_left
                  · (intro w hSw; (try dsimp only at hSw); go_simp) <;> with_reducible rfl
                  try simp only [Act.put, List.setIfInBounds_toArray, List.set_cons_zero, List.set_cons_succ, List.getElem_toArray, List.getElem_cons_succ, List.getElem_cons_zero]
                  refine wpAnyH_take (i := 14) (v := ?_) rfl (by kernel_rfl) (by kernel_rfl) (by kernel_rfl) (fun _ _ _ h => h) (Or.inl ⟨by rfl, ?_⟩) (by assumption) ?_
                  rotate_left
                  · (intro w hSw; (try dsimp only at hSw); go_simp) <;> with_reducible rfl
                  try simp only [Act.put, List.setIfInBounds_toArray, List.set_cons_zero, List.set_cons_succ, List.getElem_toArray, List.getElem_cons_succ, List.getElem_cons_zero]
                  refine wpAnyH_take (i := 15) (v := ?_) rfl (by kernel_rfl) (by kernel_rfl) (by kernel_rfl) (fun _ _ _ h => h) (Or.inl ⟨by rfl, ?_⟩) (by assumption) ?_
                  rotate_left
                  · (intro w hSw; (try dsimp only at hSw); go_simp) <;> with_reducible rfl
                  try simp only [Act.put, List.setIfInBounds_toArray, List.set_cons_zero, List.set_cons_succ, List.getElem_toArray, List.getElem_cons_succ, List.getElem_cons_zero]
                  refine wpAnyH_take (i := 16) (v := ?_) rfl (by kernel_rfl) (by kernel_rfl) (by kernel_rfl) (fun _ _ _ h => h) (Or.inl ⟨by rfl, ?_⟩) (by assumption) ?_
                  rotate_left
                  · (intro w hSw; (try dsimp only at hSw); go_simp) <;> with_reducible rfl
                  try simp only [Act.put, List.setIfInBounds_toArray, List.set_cons_zero, List.set_cons_succ, List.getElem_toArray, List.getElem_cons_succ, List.getElem_cons_zero]
                  refine wpAnyH_done (by kernel_rfl) ?_ _
                  clear hHeld
                  have HNO := Lib.hid (show ¬ (q < O.length ∧ (binAt O q).code = y.code) from fun h => HE.out h.2)
                  have HCC := Lib.hid (show q < O.length → codeLt (binAt O q).code y.code = false from fun _ => by simpa using HC.out)
                  obtain ⟨wn, hwn⟩ : ∃ wn, wn = wr.drew.drew := ⟨_, rfl⟩
                  rw [← hwn]
                  have Hon := Lib.hid (show wn.ownsRow w.heap.size 58 5 (.slice _ O.length co) O.length (binRow O) by rw [hwn]; exact Hot.out)
                  have Hbn : Hid (Below w.heap.size w wn) := by rw [hwn]; exact Lib.hid (Hbt.out.drew.drew)
                  have hszn := Hbn.out.size
                  have zn0 : wn.cell? ⟨gy, oy + k * 5, none⟩ = some (.string y.code) := by rw [hwn]; exact z0
                  have zn1 : wn.cell? ⟨gy, oy + k * 5 + 1, none⟩ = some (.int .i64 y.amount) := by rw [hwn]; exact z1
                  have zn2 : wn.cell? ⟨gy, oy + k * 5 + 2, none⟩ = some (.int .i64 y.reserved) := by rw [hwn]; exact z2
                  have zn3 : wn.cell? ⟨gy, oy + k * 5 + 3, none⟩ = some (.int .i64 y.point) := by rw [hwn]; exact z3
                  have zn4 : wn.cell? ⟨gy, oy + k * 5 + 4, none⟩ = some (.int .i64 y.lot) := by rw [hwn]; exact z4
                  have hgyn : gy < wn.heap.size := block_lt_cell zn0
                  clear hwn
                  have jq2 : (0 : Int) ≤ (q : Int) := Int.natCast_nonneg _
                  have jq3 : (q : Int) ≤ (O.length : Int) := by omega
                  have jq4 : q ≤ O.length := hq
                  obtain ⟨_, hco1, hco2⟩ := own_caps Hon.out
                  unfold maxLen at hco2
                  have jq5 : (q : Int) ≤ (co : Int) := by omega
                  have jq6 : (O.length : Int) ≤ (co : Int) := by omega
                  have jq7 : q ≤ co := by omega
                  have RD := Lib.hid (Rd.of_own Hon.out)
                  have HN : Hid (O.take q ++ y :: O.drop q = mergeGo A (B.take (k + 1))) := by
                    rw [HMT.out, ← HO.out, insR_at O y q hq Hall.out HCC.out, if_neg HNO.out]; exact Lib.hid rfl
                  go_wp2
                  refine wp_region_held_drew (S := (fun w' => w'.cell? ⟨gy, oy + k * 5, none⟩ = some (.string y.code) ∧ w'.cell? ⟨gy, oy + k * 5 + 1, none⟩ = some (.int .i64 y.amount) ∧ w'.cell? ⟨gy, oy + k * 5 + 2, none⟩ = some (.int .i64 y.reserved) ∧ w'.cell? ⟨gy, oy + k * 5 + 3, none⟩ = some (.int .i64 y.point) ∧ w'.cell? ⟨gy, oy + k * 5 + 4, none⟩ = some (.int .i64 y.lot))) (by kernel_rfl) ?_ (fun hHeld => ?_)
                  · (try dsimp only); first | (go_split_ands; exact ⟨by assumption, by assumption, by assumption, by assumption, by assumption⟩) | (exact ⟨(q6.cell (p := ⟨gy, _, none⟩) hgyn).trans zn0, (q6.cell (p := ⟨gy, _, none⟩) hgyn).trans zn1, (q6.cell (p := ⟨gy, _, none⟩) hgyn).trans zn2, (q6.cell (p := ⟨gy, _, none⟩) hgyn).trans zn3, (q6.cell (p := ⟨gy, _, none⟩) hgyn).trans zn4⟩) | (exact ⟨(q5.cell (p := ⟨gy, _, none⟩) hgyn).trans zn0, (q5.cell (p := ⟨gy, _, none⟩) hgyn).trans zn1, (q5.cell (p := ⟨gy, _, none⟩) hgyn).trans zn2, (q5.cell (p := ⟨gy, _, none⟩) hgyn).trans zn3, (q5.cell (p := ⟨gy, _, none⟩) hgyn).trans zn4⟩) | (exact ⟨(q4.cell (p := ⟨gy, _, none⟩) hgyn).trans zn0, (q4.cell (p := ⟨gy, _, none⟩) hgyn).trans zn1, (q4.cell (p := ⟨gy, _, none⟩) hgyn).trans zn2, (q4.cell (p := ⟨gy, _, none⟩) hgyn).trans zn3, (q4.cell (p := ⟨gy, _, none⟩) hgyn).trans zn4⟩) | (exact ⟨((q4.alloc q4.size _).cell (p := ⟨gy, _, none⟩) hgyn).trans zn0, ((q4.alloc q4.size _).cell (p := ⟨gy, _, none⟩) hgyn).trans zn1, ((q4.alloc q4.size _).cell (p := ⟨gy, _, none⟩) hgyn).trans zn2, ((q4.alloc q4.size _).cell (p := ⟨gy, _, none⟩) hgyn).trans zn3, ((q4.alloc q4.size _).cell (p := ⟨gy, _, none⟩) hgyn).trans zn4⟩) | (exact ⟨((below_drewN (Below.refl wn.heap.size wn) _).cell (p := ⟨gy, _, none⟩) hgyn).trans zn0, ((below_drewN (Below.refl wn.heap.size wn) _).cell (p := ⟨gy, _, none⟩) hgyn).trans zn1, ((below_drewN (Below.refl wn.heap.size wn) _).cell (p := ⟨gy, _, none⟩) hgyn).trans zn2, ((below_drewN (Below.refl wn.heap.size wn) _).cell (p := ⟨gy, _, none⟩) hgyn).trans zn3, ((below_drewN (Below.refl wn.heap.size wn) _).cell (p := ⟨gy, _, none⟩) hgyn).trans zn4⟩) | (exact ⟨(((below_drewN (Below.refl wn.heap.size wn) _).alloc (by simp) _).cell (p := ⟨gy, _, none⟩) hgyn).trans zn0, (((below_drewN (Below.refl wn.heap.size wn) _).alloc (by simp) _).cell (p := ⟨gy, _, none⟩) hgyn).trans zn1, (((below_drewN (Below.refl wn.heap.size wn) _).alloc (by simp) _).cell (p := ⟨gy, _, none⟩) hgyn).trans zn2, (((below_drewN (Below.refl wn.heap.size wn) _).alloc (by simp) _).cell (p := ⟨gy, _, none⟩) hgyn).trans zn3, (((below_drewN (Below.refl wn.heap.size wn) _).alloc (by simp) _).cell (p := ⟨gy, _, none⟩) hgyn).trans zn4⟩) | (exact ⟨((((below_drewN (Below.refl wn.heap.size wn) _).alloc (by simp) _).alloc (by simp <;> omega) _).cell (p := ⟨gy, _, none⟩) hgyn).trans zn0, ((((below_drewN (Below.refl wn.heap.size wn) _).alloc (by simp) _).alloc (by simp <;> omega) _).cell (p := ⟨gy, _, none⟩) hgyn).trans zn1, ((((below_drewN (Below.refl wn.heap.size wn) _).alloc (by simp) _).alloc (by simp <;> omega) _).cell (p := ⟨gy, _, none⟩) hgyn).trans zn2, ((((below_drewN (Below.refl wn.heap.size wn) _).alloc (by simp) _).alloc (by simp <;> omega) _).cell (p := ⟨gy, _, none⟩) hgyn).trans zn3, ((((below_drewN (Below.refl wn.heap.size wn) _).alloc (by simp) _).alloc (by simp <;> omega) _).cell (p := ⟨gy, _, none⟩) hgyn).trans zn4⟩) | go_keep
                  refine wpAnyH_take (i := 1) (v := ?_) rfl (by kernel_rfl) (by kernel_rfl) (by kernel_rfl) (fun _ _ _ h => h) (Or.inl ⟨by rfl, ?_⟩) (by assumption) ?_
                  rotate_left
                  · (intro w hSw; (try dsimp only at hSw); go_simp) <;> with_reducible rfl
                  try simp only [Act.put, List.setIfInBounds_toArray, List.set_cons_zero, List.set_cons_succ, List.getElem_toArray, List.getElem_cons_succ, List.getElem_cons_zero]
                  refine wpAnyH_take (i := 2) (v := ?_) rfl (by kernel_rfl) (by kernel_rfl) (by kernel_rfl) (fun _ _ _ h => h) (Or.inl ⟨by rfl, ?_⟩) (by assumption) ?_
                  rotate_left
                  · (intro w hSw; (try dsimp only at hSw); go_simp) <;> with_reducible rfl
                  try simp only [Act.put, List.setIfInBounds_toArray, List.set_cons_zero, List.set_cons_succ, List.getElem_toArray, List.getElem_cons_succ, List.getElem_cons_zero]
                  refine wpAnyH_take (i := 3) (v := ?_) rfl (by kernel_rfl) (by kernel_rfl) (by kernel_rfl) (fun _ _ _ h => h) (Or.inl ⟨by rfl, ?_⟩) (by assumption) ?_
                  rotate_left
                  · (intro w hSw; (try dsimp only at hSw); go_simp) <;> with_reducible rfl
                  try simp only [Act.put, List.setIfInBounds_toArray, List.set_cons_zero, List.set_cons_succ, List.getElem_toArray, List.getElem_cons_succ, List.getElem_cons_zero]
                  refine wpAnyH_take (i := 5) (v := ?_) rfl (by kernel_rfl) (by kernel_rfl) (by kernel_rfl) (fun _ _ _ h => h) (Or.inl ⟨by rfl, ?_⟩) (by assumption) ?_
                  rotate_left
                  · (intro w hSw; (try dsimp only at hSw); go_simp) <;> with_reducible rfl
                  try simp only [Act.put, List.setIfInBounds_toArray, List.set_cons_zero, List.set_cons_succ, List.getElem_toArray, List.getElem_cons_succ, List.getElem_cons_zero]
                  refine wpAnyH_take (i := 6) (v := ?_) rfl (by kernel_rfl) (by kernel_rfl) (by kernel_rfl) (fun _ _ _ h => h) (Or.inl ⟨by rfl, ?_⟩) (by assumption) ?_
                  rotate_left
                  · (intro w hSw; (try dsimp only at hSw); go_simp) <;> with_reducible rfl
                  try simp only [Act.put, List.setIfInBounds_toArray, List.set_cons_zero, List.set_cons_succ, List.getElem_toArray, List.getElem_cons_succ, List.getElem_cons_zero]
                  refine wpAnyH_take (i := 7) (v := ?_) rfl (by kernel_rfl) (by kernel_rfl) (by kernel_rfl) (fun _ _ _ h => h) (Or.inl ⟨by rfl, ?_⟩) (by assumption) ?_
                  rotate_left
                  · (intro w hSw; (try dsimp only at hSw); go_simp) <;> with_reducible rfl
                  try simp only [Act.put, List.setIfInBounds_toArray, List.set_cons_zero, List.set_cons_succ, List.getElem_toArray, List.getElem_cons_succ, List.getElem_cons_zero]
                  refine wpAnyH_take (i := 8) (v := ?_) rfl (by kernel_rfl) (by kernel_rfl) (by kernel_rfl) (fun _ _ _ h => h) (Or.inl ⟨by rfl, ?_⟩) (by assumption) ?_
                  rotate_left
                  · (intro w hSw; (try dsimp only at hSw); go_simp) <;> with_reducible rfl
                  try simp only [Act.put, List.setIfInBounds_toArray, List.set_cons_zero, List.set_cons_succ, List.getElem_toArray, List.getElem_cons_succ, List.getElem_cons_zero]
                  refine wpAnyH_take (i := 11) (v := ?_) rfl (by kernel_rfl) (by kernel_rfl) (by kernel_rfl) (fun _ _ _ h => h) (Or.inl ⟨by rfl, ?_⟩) (by assumption) ?_
                  rotate_left
                  · (intro w hSw; (try dsimp only at hSw); go_simp) <;> with_reducible rfl
                  try simp only [Act.put, List.setIfInBounds_toArray, List.set_cons_zero, List.set_cons_succ, List.getElem_toArray, List.getElem_cons_succ, List.getElem_cons_zero]
                  refine wpAnyH_take (i := 12) (v := ?_) rfl (by kernel_rfl) (by kernel_rfl) (by kernel_rfl) (fun _ _ _ h => h) (Or.inl ⟨by rfl, ?_⟩) (by assumption) ?_
                  rotate_left
                  · (intro w hSw; (try dsimp only at hSw); go_simp) <;> with_reducible rfl
                  try simp only [Act.put, List.setIfInBounds_toArray, List.set_cons_zero, List.set_cons_succ, List.getElem_toArray, List.getElem_cons_succ, List.getElem_cons_zero]
                  refine wpAnyH_take (i := 13) (v := ?_) rfl (by kernel_rfl) (by kernel_rfl) (by kernel_rfl) (fun _ _ _ h => h) (Or.inl ⟨by rfl, ?_⟩) (by assumption) ?_
                  rotate_left
                  · (intro w hSw; (try dsimp only at hSw); go_simp) <;> with_reducible rfl
                  try simp only [Act.put, List.setIfInBounds_toArray, List.set_cons_zero, List.set_cons_succ, List.getElem_toArray, List.getElem_cons_succ, List.getElem_cons_zero]
                  refine wpAnyH_ready (rs := [0, 9]) (by kernel_rfl) (by simp) ?_
                  refine (AllReadyH.cons rfl (fun K hK => ?_) (AllReadyH.cons rfl (fun K hK => ?_) AllReadyH.nil))
                  · skip
                    try dsimp only [List.getElem_toArray, List.getElem_cons_succ, List.getElem_cons_zero]
                    go_simp
                    refine hK.out _ _ ?_ (fun hHeld => ?_)
                    · (try dsimp only); first | (go_split_ands; exact ⟨by assumption, by assumption, by assumption, by assumption, by assumption⟩) | (exact ⟨(q6.cell (p := ⟨gy, _, none⟩) hgyn).trans zn0, (q6.cell (p := ⟨gy, _, none⟩) hgyn).trans zn1, (q6.cell (p := ⟨gy, _, none⟩) hgyn).trans zn2, (q6.cell (p := ⟨gy, _, none⟩) hgyn).trans zn3, (q6.cell (p := ⟨gy, _, none⟩) hgyn).trans zn4⟩) | (exact ⟨(q5.cell (p := ⟨gy, _, none⟩) hgyn).trans zn0, (q5.cell (p := ⟨gy, _, none⟩) hgyn).trans zn1, (q5.cell (p := ⟨gy, _, none⟩) hgyn).trans zn2, (q5.cell (p := ⟨gy, _, none⟩) hgyn).trans zn3, (q5.cell (p := ⟨gy, _, none⟩) hgyn).trans zn4⟩) | (exact ⟨(q4.cell (p := ⟨gy, _, none⟩) hgyn).trans zn0, (q4.cell (p := ⟨gy, _, none⟩) hgyn).trans zn1, (q4.cell (p := ⟨gy, _, none⟩) hgyn).trans zn2, (q4.cell (p := ⟨gy, _, none⟩) hgyn).trans zn3, (q4.cell (p := ⟨gy, _, none⟩) hgyn).trans zn4⟩) | (exact ⟨((q4.alloc q4.size _).cell (p := ⟨gy, _, none⟩) hgyn).trans zn0, ((q4.alloc q4.size _).cell (p := ⟨gy, _, none⟩) hgyn).trans zn1, ((q4.alloc q4.size _).cell (p := ⟨gy, _, none⟩) hgyn).trans zn2, ((q4.alloc q4.size _).cell (p := ⟨gy, _, none⟩) hgyn).trans zn3, ((q4.alloc q4.size _).cell (p := ⟨gy, _, none⟩) hgyn).trans zn4⟩) | (exact ⟨((below_drewN (Below.refl wn.heap.size wn) _).cell (p := ⟨gy, _, none⟩) hgyn).trans zn0, ((below_drewN (Below.refl wn.heap.size wn) _).cell (p := ⟨gy, _, none⟩) hgyn).trans zn1, ((below_drewN (Below.refl wn.heap.size wn) _).cell (p := ⟨gy, _, none⟩) hgyn).trans zn2, ((below_drewN (Below.refl wn.heap.size wn) _).cell (p := ⟨gy, _, none⟩) hgyn).trans zn3, ((below_drewN (Below.refl wn.heap.size wn) _).cell (p := ⟨gy, _, none⟩) hgyn).trans zn4⟩) | (exact ⟨(((below_drewN (Below.refl wn.heap.size wn) _).alloc (by simp) _).cell (p := ⟨gy, _, none⟩) hgyn).trans zn0, (((below_drewN (Below.refl wn.heap.size wn) _).alloc (by simp) _).cell (p := ⟨gy, _, none⟩) hgyn).trans zn1, (((below_drewN (Below.refl wn.heap.size wn) _).alloc (by simp) _).cell (p := ⟨gy, _, none⟩) hgyn).trans zn2, (((below_drewN (Below.refl wn.heap.size wn) _).alloc (by simp) _).cell (p := ⟨gy, _, none⟩) hgyn).trans zn3, (((below_drewN (Below.refl wn.heap.size wn) _).alloc (by simp) _).cell (p := ⟨gy, _, none⟩) hgyn).trans zn4⟩) | (exact ⟨((((below_drewN (Below.refl wn.heap.size wn) _).alloc (by simp) _).alloc (by simp <;> omega) _).cell (p := ⟨gy, _, none⟩) hgyn).trans zn0, ((((below_drewN (Below.refl wn.heap.size wn) _).alloc (by simp) _).alloc (by simp <;> omega) _).cell (p := ⟨gy, _, none⟩) hgyn).trans zn1, ((((below_drewN (Below.refl wn.heap.size wn) _).alloc (by simp) _).alloc (by simp <;> omega) _).cell (p := ⟨gy, _, none⟩) hgyn).trans zn2, ((((below_drewN (Below.refl wn.heap.size wn) _).alloc (by simp) _).alloc (by simp <;> omega) _).cell (p := ⟨gy, _, none⟩) hgyn).trans zn3, ((((below_drewN (Below.refl wn.heap.size wn) _).alloc (by simp) _).alloc (by simp <;> omega) _).cell (p := ⟨gy, _, none⟩) hgyn).trans zn4⟩) | go_keep
                    clear hK K
                    try simp only [Act.put, List.setIfInBounds_toArray, List.set_cons_zero, List.set_cons_succ, List.getElem_toArray, List.getElem_cons_succ, List.getElem_cons_zero]
                    refine wpAnyH_ready (rs := [4, 9]) (by kernel_rfl) (by simp) ?_
                    refine (AllReadyH.cons rfl (fun K hK => ?_) (AllReadyH.cons rfl (fun K hK => ?_) AllReadyH.nil))
                    · skip
                      (refine step_append_sl _ (by rfl) (.tmp 75) (.tmp 78) _ (by rfl) wn.heap.size 58 i0 _ 5 48 Try.underlying25 hi hz0 hz1 hz2 rfl (by omega) (.slice (some ⟨_, 0, none⟩) 0 0) 0 [] (by rfl) (by first | exact own_empty' _ _ _ (by simp <;> omega) (by simp) | exact (own_empty' _ _ _ (by simp <;> omega) (by simp)).alloc _) _ q co ((binRow O).take (q * 5)) (by rfl) (by first | exact Rd.alloc' (Rd.take (Rd.drewN (Rd.of_own Hon.out) _) hq) _ | exact Rd.alloc' (Rd.alloc' (Rd.take (Rd.drewN (Rd.of_own Hon.out) _) hq) _) _) (fun u hu => binRow_one O u (List.mem_of_mem_take hu)) (by unfold maxLen; omega) (by omega) (by simp <;> omega) ?_; intro A4 c4 w4 ho4 hg4 hor4; simp only [Nat.zero_add, List.nil_append] at ho4 ⊢; have T4 := Lib.hid (World.ownsRow.lt ho4); have q4 : Below wn.heap.size wn w4 := (by first | exact Below.grown ((below_drewN (Below.refl _ _) _).alloc (by simp) _) hg4 (by simp <;> omega) (fun g hg => by simp [Value.ownBlock] at hg; omega) | exact Below.grown (((below_drewN (Below.refl _ _) _).alloc (by simp) _).alloc (by simp <;> omega) _) hg4 (by simp <;> omega) (fun g hg => by simp [Value.ownBlock] at hg; omega)))
                      refine hK.out _ _ ?_ (fun hHeld => ?_)
                      · (try dsimp only); first | (go_split_ands; exact ⟨by assumption, by assumption, by assumption, by assumption, by assumption⟩) | (exact ⟨(q6.cell (p := ⟨gy, _, none⟩) hgyn).trans zn0, (q6.cell (p := ⟨gy, _, none⟩) hgyn).trans zn1, (q6.cell (p := ⟨gy, _, none⟩) hgyn).trans zn2, (q6.cell (p := ⟨gy, _, none⟩) hgyn).trans zn3, (q6.cell (p := ⟨gy, _, none⟩) hgyn).trans zn4⟩) | (exact ⟨(q5.cell (p := ⟨gy, _, none⟩) hgyn).trans zn0, (q5.cell (p := ⟨gy, _, none⟩) hgyn).trans zn1, (q5.cell (p := ⟨gy, _, none⟩) hgyn).trans zn2, (q5.cell (p := ⟨gy, _, none⟩) hgyn).trans zn3, (q5.cell (p := ⟨gy, _, none⟩) hgyn).trans zn4⟩) | (exact ⟨(q4.cell (p := ⟨gy, _, none⟩) hgyn).trans zn0, (q4.cell (p := ⟨gy, _, none⟩) hgyn).trans zn1, (q4.cell (p := ⟨gy, _, none⟩) hgyn).trans zn2, (q4.cell (p := ⟨gy, _, none⟩) hgyn).trans zn3, (q4.cell (p := ⟨gy, _, none⟩) hgyn).trans zn4⟩) | (exact ⟨((q4.alloc q4.size _).cell (p := ⟨gy, _, none⟩) hgyn).trans zn0, ((q4.alloc q4.size _).cell (p := ⟨gy, _, none⟩) hgyn).trans zn1, ((q4.alloc q4.size _).cell (p := ⟨gy, _, none⟩) hgyn).trans zn2, ((q4.alloc q4.size _).cell (p := ⟨gy, _, none⟩) hgyn).trans zn3, ((q4.alloc q4.size _).cell (p := ⟨gy, _, none⟩) hgyn).trans zn4⟩) | (exact ⟨((below_drewN (Below.refl wn.heap.size wn) _).cell (p := ⟨gy, _, none⟩) hgyn).trans zn0, ((below_drewN (Below.refl wn.heap.size wn) _).cell (p := ⟨gy, _, none⟩) hgyn).trans zn1, ((below_drewN (Below.refl wn.heap.size wn) _).cell (p := ⟨gy, _, none⟩) hgyn).trans zn2, ((below_drewN (Below.refl wn.heap.size wn) _).cell (p := ⟨gy, _, none⟩) hgyn).trans zn3, ((below_drewN (Below.refl wn.heap.size wn) _).cell (p := ⟨gy, _, none⟩) hgyn).trans zn4⟩) | (exact ⟨(((below_drewN (Below.refl wn.heap.size wn) _).alloc (by simp) _).cell (p := ⟨gy, _, none⟩) hgyn).trans zn0, (((below_drewN (Below.refl wn.heap.size wn) _).alloc (by simp) _).cell (p := ⟨gy, _, none⟩) hgyn).trans zn1, (((below_drewN (Below.refl wn.heap.size wn) _).alloc (by simp) _).cell (p := ⟨gy, _, none⟩) hgyn).trans zn2, (((below_drewN (Below.refl wn.heap.size wn) _).alloc (by simp) _).cell (p := ⟨gy, _, none⟩) hgyn).trans zn3, (((below_drewN (Below.refl wn.heap.size wn) _).alloc (by simp) _).cell (p := ⟨gy, _, none⟩) hgyn).trans zn4⟩) | (exact ⟨((((below_drewN (Below.refl wn.heap.size wn) _).alloc (by simp) _).alloc (by simp <;> omega) _).cell (p := ⟨gy, _, none⟩) hgyn).trans zn0, ((((below_drewN (Below.refl wn.heap.size wn) _).alloc (by simp) _).alloc (by simp <;> omega) _).cell (p := ⟨gy, _, none⟩) hgyn).trans zn1, ((((below_drewN (Below.refl wn.heap.size wn) _).alloc (by simp) _).alloc (by simp <;> omega) _).cell (p := ⟨gy, _, none⟩) hgyn).trans zn2, ((((below_drewN (Below.refl wn.heap.size wn) _).alloc (by simp) _).alloc (by simp <;> omega) _).cell (p := ⟨gy, _, none⟩) hgyn).trans zn3, ((((below_drewN (Below.refl wn.heap.size wn) _).alloc (by simp) _).alloc (by simp <;> omega) _).cell (p := ⟨gy, _, none⟩) hgyn).trans zn4⟩) | go_keep
                      clear hK K
                      try simp only [Act.put, List.setIfInBounds_toArray, List.set_cons_zero, List.set_cons_succ, List.getElem_toArray, List.getElem_cons_succ, List.getElem_cons_zero]
                      refine wpAnyH_ready (rs := [9]) (by kernel_rfl) (by simp) ?_
                      refine AllReadyH.cons rfl (fun K hK => ?_) AllReadyH.nil
                      try dsimp only [List.getElem_toArray, List.getElem_cons_succ, List.getElem_cons_zero]
                      go_simp
                      refine hK.out _ _ ?_ (fun hHeld => ?_)
                      · (try dsimp only); first | (go_split_ands; exact ⟨by assumption, by assumption, by assumption, by assumption, by assumption⟩) | (exact ⟨(q6.cell (p := ⟨gy, _, none⟩) hgyn).trans zn0, (q6.cell (p := ⟨gy, _, none⟩) hgyn).trans zn1, (q6.cell (p := ⟨gy, _, none⟩) hgyn).trans zn2, (q6.cell (p := ⟨gy, _, none⟩) hgyn).trans zn3, (q6.cell (p := ⟨gy, _, none⟩) hgyn).trans zn4⟩) | (exact ⟨(q5.cell (p := ⟨gy, _, none⟩) hgyn).trans zn0, (q5.cell (p := ⟨gy, _, none⟩) hgyn).trans zn1, (q5.cell (p := ⟨gy, _, none⟩) hgyn).trans zn2, (q5.cell (p := ⟨gy, _, none⟩) hgyn).trans zn3, (q5.cell (p := ⟨gy, _, none⟩) hgyn).trans zn4⟩) | (exact ⟨(q4.cell (p := ⟨gy, _, none⟩) hgyn).trans zn0, (q4.cell (p := ⟨gy, _, none⟩) hgyn).trans zn1, (q4.cell (p := ⟨gy, _, none⟩) hgyn).trans zn2, (q4.cell (p := ⟨gy, _, none⟩) hgyn).trans zn3, (q4.cell (p := ⟨gy, _, none⟩) hgyn).trans zn4⟩) | (exact ⟨((q4.alloc q4.size _).cell (p := ⟨gy, _, none⟩) hgyn).trans zn0, ((q4.alloc q4.size _).cell (p := ⟨gy, _, none⟩) hgyn).trans zn1, ((q4.alloc q4.size _).cell (p := ⟨gy, _, none⟩) hgyn).trans zn2, ((q4.alloc q4.size _).cell (p := ⟨gy, _, none⟩) hgyn).trans zn3, ((q4.alloc q4.size _).cell (p := ⟨gy, _, none⟩) hgyn).trans zn4⟩) | (exact ⟨((below_drewN (Below.refl wn.heap.size wn) _).cell (p := ⟨gy, _, none⟩) hgyn).trans zn0, ((below_drewN (Below.refl wn.heap.size wn) _).cell (p := ⟨gy, _, none⟩) hgyn).trans zn1, ((below_drewN (Below.refl wn.heap.size wn) _).cell (p := ⟨gy, _, none⟩) hgyn).trans zn2, ((below_drewN (Below.refl wn.heap.size wn) _).cell (p := ⟨gy, _, none⟩) hgyn).trans zn3, ((below_drewN (Below.refl wn.heap.size wn) _).cell (p := ⟨gy, _, none⟩) hgyn).trans zn4⟩) | (exact ⟨(((below_drewN (Below.refl wn.heap.size wn) _).alloc (by simp) _).cell (p := ⟨gy, _, none⟩) hgyn).trans zn0, (((below_drewN (Below.refl wn.heap.size wn) _).alloc (by simp) _).cell (p := ⟨gy, _, none⟩) hgyn).trans zn1, (((below_drewN (Below.refl wn.heap.size wn) _).alloc (by simp) _).cell (p := ⟨gy, _, none⟩) hgyn).trans zn2, (((below_drewN (Below.refl wn.heap.size wn) _).alloc (by simp) _).cell (p := ⟨gy, _, none⟩) hgyn).trans zn3, (((below_drewN (Below.refl wn.heap.size wn) _).alloc (by simp) _).cell (p := ⟨gy, _, none⟩) hgyn).trans zn4⟩) | (exact ⟨((((below_drewN (Below.refl wn.heap.size wn) _).alloc (by simp) _).alloc (by simp <;> omega) _).cell (p := ⟨gy, _, none⟩) hgyn).trans zn0, ((((below_drewN (Below.refl wn.heap.size wn) _).alloc (by simp) _).alloc (by simp <;> omega) _).cell (p := ⟨gy, _, none⟩) hgyn).trans zn1, ((((below_drewN (Below.refl wn.heap.size wn) _).alloc (by simp) _).alloc (by simp <;> omega) _).cell (p := ⟨gy, _, none⟩) hgyn).trans zn2, ((((below_drewN (Below.refl wn.heap.size wn) _).alloc (by simp) _).alloc (by simp <;> omega) _).cell (p := ⟨gy, _, none⟩) hgyn).trans zn3, ((((below_drewN (Below.refl wn.heap.size wn) _).alloc (by simp) _).alloc (by simp <;> omega) _).cell (p := ⟨gy, _, none⟩) hgyn).trans zn4⟩) | go_keep
                      clear hK K
                      try simp only [Act.put, List.setIfInBounds_toArray, List.set_cons_zero, List.set_cons_succ, List.getElem_toArray, List.getElem_cons_succ, List.getElem_cons_zero]
                      refine wpAnyH_ready (rs := [10]) (by kernel_rfl) (by simp) ?_
                      refine AllReadyH.cons rfl (fun K hK => ?_) AllReadyH.nil
                      (refine step_append_sl _ (by rfl) (.tmp 79) (.tmp 84) _ (by rfl) wn.heap.size 58 i0 _ 5 48 Try.underlying25 hi hz0 hz1 hz2 rfl (by omega) (.slice A4 q c4) q ((binRow O).take (q * 5)) (by rfl) (ho4.alloc _) (some _) 1 1 (binCells y) (by rfl) (Rd.of_block (cs := #[.string y.code, .int .i64 y.amount, .int .i64 y.reserved, .int .i64 y.point, .int .i64 y.lot]) (heap_alloc_new _ _) rfl) (binCells_one _) (by unfold maxLen; omega) (by omega) (by have := hg4.size; (try simp at this); simp <;> omega) ?_; intro A5 c5 w5 ho5 hg5 hor5; have T5 := Lib.hid (World.ownsRow.lt ho5); have q5 : Below wn.heap.size wn w5 := (q4.alloc q4.size _).grown hg5 (by have := hg4.size; (try simp at this); simp <;> omega) (fun g hg => (T4.out g hg).1))
                      refine hK.out _ _ ?_ (fun hHeld => ?_)
                      · (try dsimp only); first | (go_split_ands; exact ⟨by assumption, by assumption, by assumption, by assumption, by assumption⟩) | (exact ⟨(q6.cell (p := ⟨gy, _, none⟩) hgyn).trans zn0, (q6.cell (p := ⟨gy, _, none⟩) hgyn).trans zn1, (q6.cell (p := ⟨gy, _, none⟩) hgyn).trans zn2, (q6.cell (p := ⟨gy, _, none⟩) hgyn).trans zn3, (q6.cell (p := ⟨gy, _, none⟩) hgyn).trans zn4⟩) | (exact ⟨(q5.cell (p := ⟨gy, _, none⟩) hgyn).trans zn0, (q5.cell (p := ⟨gy, _, none⟩) hgyn).trans zn1, (q5.cell (p := ⟨gy, _, none⟩) hgyn).trans zn2, (q5.cell (p := ⟨gy, _, none⟩) hgyn).trans zn3, (q5.cell (p := ⟨gy, _, none⟩) hgyn).trans zn4⟩) | (exact ⟨(q4.cell (p := ⟨gy, _, none⟩) hgyn).trans zn0, (q4.cell (p := ⟨gy, _, none⟩) hgyn).trans zn1, (q4.cell (p := ⟨gy, _, none⟩) hgyn).trans zn2, (q4.cell (p := ⟨gy, _, none⟩) hgyn).trans zn3, (q4.cell (p := ⟨gy, _, none⟩) hgyn).trans zn4⟩) | (exact ⟨((q4.alloc q4.size _).cell (p := ⟨gy, _, none⟩) hgyn).trans zn0, ((q4.alloc q4.size _).cell (p := ⟨gy, _, none⟩) hgyn).trans zn1, ((q4.alloc q4.size _).cell (p := ⟨gy, _, none⟩) hgyn).trans zn2, ((q4.alloc q4.size _).cell (p := ⟨gy, _, none⟩) hgyn).trans zn3, ((q4.alloc q4.size _).cell (p := ⟨gy, _, none⟩) hgyn).trans zn4⟩) | (exact ⟨((below_drewN (Below.refl wn.heap.size wn) _).cell (p := ⟨gy, _, none⟩) hgyn).trans zn0, ((below_drewN (Below.refl wn.heap.size wn) _).cell (p := ⟨gy, _, none⟩) hgyn).trans zn1, ((below_drewN (Below.refl wn.heap.size wn) _).cell (p := ⟨gy, _, none⟩) hgyn).trans zn2, ((below_drewN (Below.refl wn.heap.size wn) _).cell (p := ⟨gy, _, none⟩) hgyn).trans zn3, ((below_drewN (Below.refl wn.heap.size wn) _).cell (p := ⟨gy, _, none⟩) hgyn).trans zn4⟩) | (exact ⟨(((below_drewN (Below.refl wn.heap.size wn) _).alloc (by simp) _).cell (p := ⟨gy, _, none⟩) hgyn).trans zn0, (((below_drewN (Below.refl wn.heap.size wn) _).alloc (by simp) _).cell (p := ⟨gy, _, none⟩) hgyn).trans zn1, (((below_drewN (Below.refl wn.heap.size wn) _).alloc (by simp) _).cell (p := ⟨gy, _, none⟩) hgyn).trans zn2, (((below_drewN (Below.refl wn.heap.size wn) _).alloc (by simp) _).cell (p := ⟨gy, _, none⟩) hgyn).trans zn3, (((below_drewN (Below.refl wn.heap.size wn) _).alloc (by simp) _).cell (p := ⟨gy, _, none⟩) hgyn).trans zn4⟩) | (exact ⟨((((below_drewN (Below.refl wn.heap.size wn) _).alloc (by simp) _).alloc (by simp <;> omega) _).cell (p := ⟨gy, _, none⟩) hgyn).trans zn0, ((((below_drewN (Below.refl wn.heap.size wn) _).alloc (by simp) _).alloc (by simp <;> omega) _).cell (p := ⟨gy, _, none⟩) hgyn).trans zn1, ((((below_drewN (Below.refl wn.heap.size wn) _).alloc (by simp) _).alloc (by simp <;> omega) _).cell (p := ⟨gy, _, none⟩) hgyn).trans zn2, ((((below_drewN (Below.refl wn.heap.size wn) _).alloc (by simp) _).alloc (by simp <;> omega) _).cell (p := ⟨gy, _, none⟩) hgyn).trans zn3, ((((below_drewN (Below.refl wn.heap.size wn) _).alloc (by simp) _).alloc (by simp <;> omega) _).cell (p := ⟨gy, _, none⟩) hgyn).trans zn4⟩) | go_keep
                      clear hK K
                      try simp only [Act.put, List.setIfInBounds_toArray, List.set_cons_zero, List.set_cons_succ, List.getElem_toArray, List.getElem_cons_succ, List.getElem_cons_zero]
                      refine wpAnyH_ready (rs := [14]) (by kernel_rfl) (by simp) ?_
                      refine AllReadyH.cons rfl (fun K hK => ?_) AllReadyH.nil
                      (refine step_append_sl _ (by rfl) (.tmp 85) (.tmp 88) _ (by rfl) wn.heap.size 58 i0 _ 5 48 Try.underlying25 hi hz0 hz1 hz2 rfl (by omega) (.slice A5 (q + 1) c5) (q + 1) ((binRow O).take (q * 5) ++ binCells y) (by rfl) ho5 _ (O.length - q) (co - q) ((binRow O).drop (q * 5)) (by rfl) (by have z := (Rd.below (Rd.cut RD.out hq hco1) q5 (Nat.le_refl _)).more q5.size; first | exact z | (rw [cut_addr] at z; exact z)) (fun u hu => binRow_one O u (List.mem_of_mem_drop hu)) (by unfold maxLen; omega) (by omega) q5.size ?_; intro A6 c6 w6 ho6 hg6 hor6; have T6 := Lib.hid (World.ownsRow.lt ho6); have q6 : Below wn.heap.size wn w6 := q5.grown hg6 q5.size (fun g hg => (T5.out g hg).1))
                      refine hK.out _ _ ?_ (fun hHeld => ?_)
                      · (try dsimp only); first | (go_split_ands; exact ⟨by assumption, by assumption, by assumption, by assumption, by assumption⟩) | (exact ⟨(q6.cell (p := ⟨gy, _, none⟩) hgyn).trans zn0, (q6.cell (p := ⟨gy, _, none⟩) hgyn).trans zn1, (q6.cell (p := ⟨gy, _, none⟩) hgyn).trans zn2, (q6.cell (p := ⟨gy, _, none⟩) hgyn).trans zn3, (q6.cell (p := ⟨gy, _, none⟩) hgyn).trans zn4⟩) | (exact ⟨(q5.cell (p := ⟨gy, _, none⟩) hgyn).trans zn0, (q5.cell (p := ⟨gy, _, none⟩) hgyn).trans zn1, (q5.cell (p := ⟨gy, _, none⟩) hgyn).trans zn2, (q5.cell (p := ⟨gy, _, none⟩) hgyn).trans zn3, (q5.cell (p := ⟨gy, _, none⟩) hgyn).trans zn4⟩) | (exact ⟨(q4.cell (p := ⟨gy, _, none⟩) hgyn).trans zn0, (q4.cell (p := ⟨gy, _, none⟩) hgyn).trans zn1, (q4.cell (p := ⟨gy, _, none⟩) hgyn).trans zn2, (q4.cell (p := ⟨gy, _, none⟩) hgyn).trans zn3, (q4.cell (p := ⟨gy, _, none⟩) hgyn).trans zn4⟩) | (exact ⟨((q4.alloc q4.size _).cell (p := ⟨gy, _, none⟩) hgyn).trans zn0, ((q4.alloc q4.size _).cell (p := ⟨gy, _, none⟩) hgyn).trans zn1, ((q4.alloc q4.size _).cell (p := ⟨gy, _, none⟩) hgyn).trans zn2, ((q4.alloc q4.size _).cell (p := ⟨gy, _, none⟩) hgyn).trans zn3, ((q4.alloc q4.size _).cell (p := ⟨gy, _, none⟩) hgyn).trans zn4⟩) | (exact ⟨((below_drewN (Below.refl wn.heap.size wn) _).cell (p := ⟨gy, _, none⟩) hgyn).trans zn0, ((below_drewN (Below.refl wn.heap.size wn) _).cell (p := ⟨gy, _, none⟩) hgyn).trans zn1, ((below_drewN (Below.refl wn.heap.size wn) _).cell (p := ⟨gy, _, none⟩) hgyn).trans zn2, ((below_drewN (Below.refl wn.heap.size wn) _).cell (p := ⟨gy, _, none⟩) hgyn).trans zn3, ((below_drewN (Below.refl wn.heap.size wn) _).cell (p := ⟨gy, _, none⟩) hgyn).trans zn4⟩) | (exact ⟨(((below_drewN (Below.refl wn.heap.size wn) _).alloc (by simp) _).cell (p := ⟨gy, _, none⟩) hgyn).trans zn0, (((below_drewN (Below.refl wn.heap.size wn) _).alloc (by simp) _).cell (p := ⟨gy, _, none⟩) hgyn).trans zn1, (((below_drewN (Below.refl wn.heap.size wn) _).alloc (by simp) _).cell (p := ⟨gy, _, none⟩) hgyn).trans zn2, (((below_drewN (Below.refl wn.heap.size wn) _).alloc (by simp) _).cell (p := ⟨gy, _, none⟩) hgyn).trans zn3, (((below_drewN (Below.refl wn.heap.size wn) _).alloc (by simp) _).cell (p := ⟨gy, _, none⟩) hgyn).trans zn4⟩) | (exact ⟨((((below_drewN (Below.refl wn.heap.size wn) _).alloc (by simp) _).alloc (by simp <;> omega) _).cell (p := ⟨gy, _, none⟩) hgyn).trans zn0, ((((below_drewN (Below.refl wn.heap.size wn) _).alloc (by simp) _).alloc (by simp <;> omega) _).cell (p := ⟨gy, _, none⟩) hgyn).trans zn1, ((((below_drewN (Below.refl wn.heap.size wn) _).alloc (by simp) _).alloc (by simp <;> omega) _).cell (p := ⟨gy, _, none⟩) hgyn).trans zn2, ((((below_drewN (Below.refl wn.heap.size wn) _).alloc (by simp) _).alloc (by simp <;> omega) _).cell (p := ⟨gy, _, none⟩) hgyn).trans zn3, ((((below_drewN (Below.refl wn.heap.size wn) _).alloc (by simp) _).alloc (by simp <;> omega) _).cell (p := ⟨gy, _, none⟩) hgyn).trans zn4⟩) | go_keep
                      clear hK K
                      try simp only [Act.put, List.setIfInBounds_toArray, List.set_cons_zero, List.set_cons_succ, List.getElem_toArray, List.getElem_cons_succ, List.getElem_cons_zero]
                      refine wpAnyH_take (i := 15) (v := ?_) rfl (by kernel_rfl) (by kernel_rfl) (by kernel_rfl) (fun _ _ _ h => h) (Or.inl ⟨by rfl, ?_⟩) (by assumption) ?_
                      rotate_left
                      · (intro w hSw; (try dsimp only at hSw); go_simp) <;> with_reducible rfl
                      try simp only [Act.put, List.setIfInBounds_toArray, List.set_cons_zero, List.set_cons_succ, List.getElem_toArray, List.getElem_cons_succ, List.getElem_cons_zero]
                      refine wpAnyH_done (by kernel_rfl) ?_ _
                      have Hb9 := Lib.hid (Hbn.out.trans (q6.mono hszn))
                      have Ho9 : Hid (w6.ownsRow w.heap.size 58 5 (.slice A6 (q + 1 + (O.length - q)) c6) (q + 1 + (O.length - q)) (binRow (O.take q ++ y :: O.drop q))) := by rw [binRow_ins O y q hq]; exact Lib.hid (own_base ho6 hszn)
                      have HLL : Hid ((O.take q ++ y :: O.drop q).length = q + 1 + (O.length - q)) := Lib.hid (by simp [List.length_take]; omega)
                      clear ho4 hg4 hor4 ho5 hg5 hor5 ho6 hg6 hor6
                      go_wp2
                      go_roundw
                      case rel => exact ⟨O.take q ++ y :: O.drop q, A6, c6, k + 1, by rw [HLL.out], by go_num, by omega, by rw [HLL.out]; omega, HN.out, by rw [HLL.out]; exact Ho9.out, by first | exact Hb9.out | exact Hb9.out.drew⟩
                      case measure => simp [intOf]; omega
                    · skip
                      try dsimp only [List.getElem_toArray, List.getElem_cons_succ, List.getElem_cons_zero]
                      go_simp
                      refine hK.out _ _ ?_ (fun hHeld => ?_)
                      · (try dsimp only); first | (go_split_ands; exact ⟨by assumption, by assumption, by assumption, by assumption, by assumption⟩) | (exact ⟨(q6.cell (p := ⟨gy, _, none⟩) hgyn).trans zn0, (q6.cell (p := ⟨gy, _, none⟩) hgyn).trans zn1, (q6.cell (p := ⟨gy, _, none⟩) hgyn).trans zn2, (q6.cell (p := ⟨gy, _, none⟩) hgyn).trans zn3, (q6.cell (p := ⟨gy, _, none⟩) hgyn).trans zn4⟩) | (exact ⟨(q5.cell (p := ⟨gy, _, none⟩) hgyn).trans zn0, (q5.cell (p := ⟨gy, _, none⟩) hgyn).trans zn1, (q5.cell (p := ⟨gy, _, none⟩) hgyn).trans zn2, (q5.cell (p := ⟨gy, _, none⟩) hgyn).trans zn3, (q5.cell (p := ⟨gy, _, none⟩) hgyn).trans zn4⟩) | (exact ⟨(q4.cell (p := ⟨gy, _, none⟩) hgyn).trans zn0, (q4.cell (p := ⟨gy, _, none⟩) hgyn).trans zn1, (q4.cell (p := ⟨gy, _, none⟩) hgyn).trans zn2, (q4.cell (p := ⟨gy, _, none⟩) hgyn).trans zn3, (q4.cell (p := ⟨gy, _, none⟩) hgyn).trans zn4⟩) | (exact ⟨((q4.alloc q4.size _).cell (p := ⟨gy, _, none⟩) hgyn).trans zn0, ((q4.alloc q4.size _).cell (p := ⟨gy, _, none⟩) hgyn).trans zn1, ((q4.alloc q4.size _).cell (p := ⟨gy, _, none⟩) hgyn).trans zn2, ((q4.alloc q4.size _).cell (p := ⟨gy, _, none⟩) hgyn).trans zn3, ((q4.alloc q4.size _).cell (p := ⟨gy, _, none⟩) hgyn).trans zn4⟩) | (exact ⟨((below_drewN (Below.refl wn.heap.size wn) _).cell (p := ⟨gy, _, none⟩) hgyn).trans zn0, ((below_drewN (Below.refl wn.heap.size wn) _).cell (p := ⟨gy, _, none⟩) hgyn).trans zn1, ((below_drewN (Below.refl wn.heap.size wn) _).cell (p := ⟨gy, _, none⟩) hgyn).trans zn2, ((below_drewN (Below.refl wn.heap.size wn) _).cell (p := ⟨gy, _, none⟩) hgyn).trans zn3, ((below_drewN (Below.refl wn.heap.size wn) _).cell (p := ⟨gy, _, none⟩) hgyn).trans zn4⟩) | (exact ⟨(((below_drewN (Below.refl wn.heap.size wn) _).alloc (by simp) _).cell (p := ⟨gy, _, none⟩) hgyn).trans zn0, (((below_drewN (Below.refl wn.heap.size wn) _).alloc (by simp) _).cell (p := ⟨gy, _, none⟩) hgyn).trans zn1, (((below_drewN (Below.refl wn.heap.size wn) _).alloc (by simp) _).cell (p := ⟨gy, _, none⟩) hgyn).trans zn2, (((below_drewN (Below.refl wn.heap.size wn) _).alloc (by simp) _).cell (p := ⟨gy, _, none⟩) hgyn).trans zn3, (((below_drewN (Below.refl wn.heap.size wn) _).alloc (by simp) _).cell (p := ⟨gy, _, none⟩) hgyn).trans zn4⟩) | (exact ⟨((((below_drewN (Below.refl wn.heap.size wn) _).alloc (by simp) _).alloc (by simp <;> omega) _).cell (p := ⟨gy, _, none⟩) hgyn).trans zn0, ((((below_drewN (Below.refl wn.heap.size wn) _).alloc (by simp) _).alloc (by simp <;> omega) _).cell (p := ⟨gy, _, none⟩) hgyn).trans zn1, ((((below_drewN (Below.refl wn.heap.size wn) _).alloc (by simp) _).alloc (by simp <;> omega) _).cell (p := ⟨gy, _, none⟩) hgyn).trans zn2, ((((below_drewN (Below.refl wn.heap.size wn) _).alloc (by simp) _).alloc (by simp <;> omega) _).cell (p := ⟨gy, _, none⟩) hgyn).trans zn3, ((((below_drewN (Below.refl wn.heap.size wn) _).alloc (by simp) _).alloc (by simp <;> omega) _).cell (p := ⟨gy, _, none⟩) hgyn).trans zn4⟩) | go_keep
                      clear hK K
                      try simp only [Act.put, List.setIfInBounds_toArray, List.set_cons_zero, List.set_cons_succ, List.getElem_toArray, List.getElem_cons_succ, List.getElem_cons_zero]
                      refine wpAnyH_ready (rs := [4]) (by kernel_rfl) (by simp) ?_
                      refine AllReadyH.cons rfl (fun K hK => ?_) AllReadyH.nil
                      (refine step_append_sl _ (by rfl) (.tmp 75) (.tmp 78) _ (by rfl) wn.heap.size 58 i0 _ 5 48 Try.underlying25 hi hz0 hz1 hz2 rfl (by omega) (.slice (some ⟨_, 0, none⟩) 0 0) 0 [] (by rfl) (by first | exact own_empty' _ _ _ (by simp <;> omega) (by simp) | exact (own_empty' _ _ _ (by simp <;> omega) (by simp)).alloc _) _ q co ((binRow O).take (q * 5)) (by rfl) (by first | exact Rd.alloc' (Rd.take (Rd.drewN (Rd.of_own Hon.out) _) hq) _ | exact Rd.alloc' (Rd.alloc' (Rd.take (Rd.drewN (Rd.of_own Hon.out) _) hq) _) _) (fun u hu => binRow_one O u (List.mem_of_mem_take hu)) (by unfold maxLen; omega) (by omega) (by simp <;> omega) ?_; intro A4 c4 w4 ho4 hg4 hor4; simp only [Nat.zero_add, List.nil_append] at ho4 ⊢; have T4 := Lib.hid (World.ownsRow.lt ho4); have q4 : Below wn.heap.size wn w4 := (by first | exact Below.grown ((below_drewN (Below.refl _ _) _).alloc (by simp) _) hg4 (by simp <;> omega) (fun g hg => by simp [Value.ownBlock] at hg; omega) | exact Below.grown (((below_drewN (Below.refl _ _) _).alloc (by simp) _).alloc (by simp <;> omega) _) hg4 (by simp <;> omega) (fun g hg => by simp [Value.ownBlock] at hg; omega)))
                      refine hK.out _ _ ?_ (fun hHeld => ?_)
                      · (try dsimp only); first | (go_split_ands; exact ⟨by assumption, by assumption, by assumption, by assumption, by assumption⟩) | (exact ⟨(q6.cell (p := ⟨gy, _, none⟩) hgyn).trans zn0, (q6.cell (p := ⟨gy, _, none⟩) hgyn).trans zn1, (q6.cell (p := ⟨gy, _, none⟩) hgyn).trans zn2, (q6.cell (p := ⟨gy, _, none⟩) hgyn).trans zn3, (q6.cell (p := ⟨gy, _, none⟩) hgyn).trans zn4⟩) | (exact ⟨(q5.cell (p := ⟨gy, _, none⟩) hgyn).trans zn0, (q5.cell (p := ⟨gy, _, none⟩) hgyn).trans zn1, (q5.cell (p := ⟨gy, _, none⟩) hgyn).trans zn2, (q5.cell (p := ⟨gy, _, none⟩) hgyn).trans zn3, (q5.cell (p := ⟨gy, _, none⟩) hgyn).trans zn4⟩) | (exact ⟨(q4.cell (p := ⟨gy, _, none⟩) hgyn).trans zn0, (q4.cell (p := ⟨gy, _, none⟩) hgyn).trans zn1, (q4.cell (p := ⟨gy, _, none⟩) hgyn).trans zn2, (q4.cell (p := ⟨gy, _, none⟩) hgyn).trans zn3, (q4.cell (p := ⟨gy, _, none⟩) hgyn).trans zn4⟩) | (exact ⟨((q4.alloc q4.size _).cell (p := ⟨gy, _, none⟩) hgyn).trans zn0, ((q4.alloc q4.size _).cell (p := ⟨gy, _, none⟩) hgyn).trans zn1, ((q4.alloc q4.size _).cell (p := ⟨gy, _, none⟩) hgyn).trans zn2, ((q4.alloc q4.size _).cell (p := ⟨gy, _, none⟩) hgyn).trans zn3, ((q4.alloc q4.size _).cell (p := ⟨gy, _, none⟩) hgyn).trans zn4⟩) | (exact ⟨((below_drewN (Below.refl wn.heap.size wn) _).cell (p := ⟨gy, _, none⟩) hgyn).trans zn0, ((below_drewN (Below.refl wn.heap.size wn) _).cell (p := ⟨gy, _, none⟩) hgyn).trans zn1, ((below_drewN (Below.refl wn.heap.size wn) _).cell (p := ⟨gy, _, none⟩) hgyn).trans zn2, ((below_drewN (Below.refl wn.heap.size wn) _).cell (p := ⟨gy, _, none⟩) hgyn).trans zn3, ((below_drewN (Below.refl wn.heap.size wn) _).cell (p := ⟨gy, _, none⟩) hgyn).trans zn4⟩) | (exact ⟨(((below_drewN (Below.refl wn.heap.size wn) _).alloc (by simp) _).cell (p := ⟨gy, _, none⟩) hgyn).trans zn0, (((below_drewN (Below.refl wn.heap.size wn) _).alloc (by simp) _).cell (p := ⟨gy, _, none⟩) hgyn).trans zn1, (((below_drewN (Below.refl wn.heap.size wn) _).alloc (by simp) _).cell (p := ⟨gy, _, none⟩) hgyn).trans zn2, (((below_drewN (Below.refl wn.heap.size wn) _).alloc (by simp) _).cell (p := ⟨gy, _, none⟩) hgyn).trans zn3, (((below_drewN (Below.refl wn.heap.size wn) _).alloc (by simp) _).cell (p := ⟨gy, _, none⟩) hgyn).trans zn4⟩) | (exact ⟨((((below_drewN (Below.refl wn.heap.size wn) _).alloc (by simp) _).alloc (by simp <;> omega) _).cell (p := ⟨gy, _, none⟩) hgyn).trans zn0, ((((below_drewN (Below.refl wn.heap.size wn) _).alloc (by simp) _).alloc (by simp <;> omega) _).cell (p := ⟨gy, _, none⟩) hgyn).trans zn1, ((((below_drewN (Below.refl wn.heap.size wn) _).alloc (by simp) _).alloc (by simp <;> omega) _).cell (p := ⟨gy, _, none⟩) hgyn).trans zn2, ((((below_drewN (Below.refl wn.heap.size wn) _).alloc (by simp) _).alloc (by simp <;> omega) _).cell (p := ⟨gy, _, none⟩) hgyn).trans zn3, ((((below_drewN (Below.refl wn.heap.size wn) _).alloc (by simp) _).alloc (by simp <;> omega) _).cell (p := ⟨gy, _, none⟩) hgyn).trans zn4⟩) | go_keep
                      clear hK K
                      try simp only [Act.put, List.setIfInBounds_toArray, List.set_cons_zero, List.set_cons_succ, List.getElem_toArray, List.getElem_cons_succ, List.getElem_cons_zero]
                      refine wpAnyH_ready (rs := [10]) (by kernel_rfl) (by simp) ?_
                      refine AllReadyH.cons rfl (fun K hK => ?_) AllReadyH.nil
                      (refine step_append_sl _ (by rfl) (.tmp 79) (.tmp 84) _ (by rfl) wn.heap.size 58 i0 _ 5 48 Try.underlying25 hi hz0 hz1 hz2 rfl (by omega) (.slice A4 q c4) q ((binRow O).take (q * 5)) (by rfl) ho4 (some _) 1 1 (binCells y) (by rfl) (by first | exact Rd.of_block (cs := #[.string y.code, .int .i64 y.amount, .int .i64 y.reserved, .int .i64 y.point, .int .i64 y.lot]) ((hg4.block _ (by simp <;> omega) (by simp [Value.ownBlock] <;> omega)).trans (heap_alloc2_new _ _ _)) rfl | exact Rd.of_block (cs := #[.string y.code, .int .i64 y.amount, .int .i64 y.reserved, .int .i64 y.point, .int .i64 y.lot]) ((hg4.block _ (by simp <;> omega) (by simp [Value.ownBlock] <;> omega)).trans (heap_alloc2_old _ _ _)) rfl) (binCells_one _) (by unfold maxLen; omega) (by omega) (by have := hg4.size; (try simp at this); simp <;> omega) ?_; intro A5 c5 w5 ho5 hg5 hor5; have T5 := Lib.hid (World.ownsRow.lt ho5); have q5 : Below wn.heap.size wn w5 := q4.grown hg5 q4.size (fun g hg => (T4.out g hg).1))
                      refine hK.out _ _ ?_ (fun hHeld => ?_)
                      · (try dsimp only); first | (go_split_ands; exact ⟨by assumption, by assumption, by assumption, by assumption, by assumption⟩) | (exact ⟨(q6.cell (p := ⟨gy, _, none⟩) hgyn).trans zn0, (q6.cell (p := ⟨gy, _, none⟩) hgyn).trans zn1, (q6.cell (p := ⟨gy, _, none⟩) hgyn).trans zn2, (q6.cell (p := ⟨gy, _, none⟩) hgyn).trans zn3, (q6.cell (p := ⟨gy, _, none⟩) hgyn).trans zn4⟩) | (exact ⟨(q5.cell (p := ⟨gy, _, none⟩) hgyn).trans zn0, (q5.cell (p := ⟨gy, _, none⟩) hgyn).trans zn1, (q5.cell (p := ⟨gy, _, none⟩) hgyn).trans zn2, (q5.cell (p := ⟨gy, _, none⟩) hgyn).trans zn3, (q5.cell (p := ⟨gy, _, none⟩) hgyn).trans zn4⟩) | (exact ⟨(q4.cell (p := ⟨gy, _, none⟩) hgyn).trans zn0, (q4.cell (p := ⟨gy, _, none⟩) hgyn).trans zn1, (q4.cell (p := ⟨gy, _, none⟩) hgyn).trans zn2, (q4.cell (p := ⟨gy, _, none⟩) hgyn).trans zn3, (q4.cell (p := ⟨gy, _, none⟩) hgyn).trans zn4⟩) | (exact ⟨((q4.alloc q4.size _).cell (p := ⟨gy, _, none⟩) hgyn).trans zn0, ((q4.alloc q4.size _).cell (p := ⟨gy, _, none⟩) hgyn).trans zn1, ((q4.alloc q4.size _).cell (p := ⟨gy, _, none⟩) hgyn).trans zn2, ((q4.alloc q4.size _).cell (p := ⟨gy, _, none⟩) hgyn).trans zn3, ((q4.alloc q4.size _).cell (p := ⟨gy, _, none⟩) hgyn).trans zn4⟩) | (exact ⟨((below_drewN (Below.refl wn.heap.size wn) _).cell (p := ⟨gy, _, none⟩) hgyn).trans zn0, ((below_drewN (Below.refl wn.heap.size wn) _).cell (p := ⟨gy, _, none⟩) hgyn).trans zn1, ((below_drewN (Below.refl wn.heap.size wn) _).cell (p := ⟨gy, _, none⟩) hgyn).trans zn2, ((below_drewN (Below.refl wn.heap.size wn) _).cell (p := ⟨gy, _, none⟩) hgyn).trans zn3, ((below_drewN (Below.refl wn.heap.size wn) _).cell (p := ⟨gy, _, none⟩) hgyn).trans zn4⟩) | (exact ⟨(((below_drewN (Below.refl wn.heap.size wn) _).alloc (by simp) _).cell (p := ⟨gy, _, none⟩) hgyn).trans zn0, (((below_drewN (Below.refl wn.heap.size wn) _).alloc (by simp) _).cell (p := ⟨gy, _, none⟩) hgyn).trans zn1, (((below_drewN (Below.refl wn.heap.size wn) _).alloc (by simp) _).cell (p := ⟨gy, _, none⟩) hgyn).trans zn2, (((below_drewN (Below.refl wn.heap.size wn) _).alloc (by simp) _).cell (p := ⟨gy, _, none⟩) hgyn).trans zn3, (((below_drewN (Below.refl wn.heap.size wn) _).alloc (by simp) _).cell (p := ⟨gy, _, none⟩) hgyn).trans zn4⟩) | (exact ⟨((((below_drewN (Below.refl wn.heap.size wn) _).alloc (by simp) _).alloc (by simp <;> omega) _).cell (p := ⟨gy, _, none⟩) hgyn).trans zn0, ((((below_drewN (Below.refl wn.heap.size wn) _).alloc (by simp) _).alloc (by simp <;> omega) _).cell (p := ⟨gy, _, none⟩) hgyn).trans zn1, ((((below_drewN (Below.refl wn.heap.size wn) _).alloc (by simp) _).alloc (by simp <;> omega) _).cell (p := ⟨gy, _, none⟩) hgyn).trans zn2, ((((below_drewN (Below.refl wn.heap.size wn) _).alloc (by simp) _).alloc (by simp <;> omega) _).cell (p := ⟨gy, _, none⟩) hgyn).trans zn3, ((((below_drewN (Below.refl wn.heap.size wn) _).alloc (by simp) _).alloc (by simp <;> omega) _).cell (p := ⟨gy, _, none⟩) hgyn).trans zn4⟩) | go_keep
                      clear hK K
                      try simp only [Act.put, List.setIfInBounds_toArray, List.set_cons_zero, List.set_cons_succ, List.getElem_toArray, List.getElem_cons_succ, List.getElem_cons_zero]
                      refine wpAnyH_ready (rs := [14]) (by kernel_rfl) (by simp) ?_
                      refine AllReadyH.cons rfl (fun K hK => ?_) AllReadyH.nil
                      (refine step_append_sl _ (by rfl) (.tmp 85) (.tmp 88) _ (by rfl) wn.heap.size 58 i0 _ 5 48 Try.underlying25 hi hz0 hz1 hz2 rfl (by omega) (.slice A5 (q + 1) c5) (q + 1) ((binRow O).take (q * 5) ++ binCells y) (by rfl) ho5 _ (O.length - q) (co - q) ((binRow O).drop (q * 5)) (by rfl) (by have z := (Rd.below (Rd.cut RD.out hq hco1) q5 (Nat.le_refl _)).more q5.size; first | exact z | (rw [cut_addr] at z; exact z)) (fun u hu => binRow_one O u (List.mem_of_mem_drop hu)) (by unfold maxLen; omega) (by omega) q5.size ?_; intro A6 c6 w6 ho6 hg6 hor6; have T6 := Lib.hid (World.ownsRow.lt ho6); have q6 : Below wn.heap.size wn w6 := q5.grown hg6 q5.size (fun g hg => (T5.out g hg).1))
                      refine hK.out _ _ ?_ (fun hHeld => ?_)
                      · (try dsimp only); first | (go_split_ands; exact ⟨by assumption, by assumption, by assumption, by assumption, by assumption⟩) | (exact ⟨(q6.cell (p := ⟨gy, _, none⟩) hgyn).trans zn0, (q6.cell (p := ⟨gy, _, none⟩) hgyn).trans zn1, (q6.cell (p := ⟨gy, _, none⟩) hgyn).trans zn2, (q6.cell (p := ⟨gy, _, none⟩) hgyn).trans zn3, (q6.cell (p := ⟨gy, _, none⟩) hgyn).trans zn4⟩) | (exact ⟨(q5.cell (p := ⟨gy, _, none⟩) hgyn).trans zn0, (q5.cell (p := ⟨gy, _, none⟩) hgyn).trans zn1, (q5.cell (p := ⟨gy, _, none⟩) hgyn).trans zn2, (q5.cell (p := ⟨gy, _, none⟩) hgyn).trans zn3, (q5.cell (p := ⟨gy, _, none⟩) hgyn).trans zn4⟩) | (exact ⟨(q4.cell (p := ⟨gy, _, none⟩) hgyn).trans zn0, (q4.cell (p := ⟨gy, _, none⟩) hgyn).trans zn1, (q4.cell (p := ⟨gy, _, none⟩) hgyn).trans zn2, (q4.cell (p := ⟨gy, _, none⟩) hgyn).trans zn3, (q4.cell (p := ⟨gy, _, none⟩) hgyn).trans zn4⟩) | (exact ⟨((q4.alloc q4.size _).cell (p := ⟨gy, _, none⟩) hgyn).trans zn0, ((q4.alloc q4.size _).cell (p := ⟨gy, _, none⟩) hgyn).trans zn1, ((q4.alloc q4.size _).cell (p := ⟨gy, _, none⟩) hgyn).trans zn2, ((q4.alloc q4.size _).cell (p := ⟨gy, _, none⟩) hgyn).trans zn3, ((q4.alloc q4.size _).cell (p := ⟨gy, _, none⟩) hgyn).trans zn4⟩) | (exact ⟨((below_drewN (Below.refl wn.heap.size wn) _).cell (p := ⟨gy, _, none⟩) hgyn).trans zn0, ((below_drewN (Below.refl wn.heap.size wn) _).cell (p := ⟨gy, _, none⟩) hgyn).trans zn1, ((below_drewN (Below.refl wn.heap.size wn) _).cell (p := ⟨gy, _, none⟩) hgyn).trans zn2, ((below_drewN (Below.refl wn.heap.size wn) _).cell (p := ⟨gy, _, none⟩) hgyn).trans zn3, ((below_drewN (Below.refl wn.heap.size wn) _).cell (p := ⟨gy, _, none⟩) hgyn).trans zn4⟩) | (exact ⟨(((below_drewN (Below.refl wn.heap.size wn) _).alloc (by simp) _).cell (p := ⟨gy, _, none⟩) hgyn).trans zn0, (((below_drewN (Below.refl wn.heap.size wn) _).alloc (by simp) _).cell (p := ⟨gy, _, none⟩) hgyn).trans zn1, (((below_drewN (Below.refl wn.heap.size wn) _).alloc (by simp) _).cell (p := ⟨gy, _, none⟩) hgyn).trans zn2, (((below_drewN (Below.refl wn.heap.size wn) _).alloc (by simp) _).cell (p := ⟨gy, _, none⟩) hgyn).trans zn3, (((below_drewN (Below.refl wn.heap.size wn) _).alloc (by simp) _).cell (p := ⟨gy, _, none⟩) hgyn).trans zn4⟩) | (exact ⟨((((below_drewN (Below.refl wn.heap.size wn) _).alloc (by simp) _).alloc (by simp <;> omega) _).cell (p := ⟨gy, _, none⟩) hgyn).trans zn0, ((((below_drewN (Below.refl wn.heap.size wn) _).alloc (by simp) _).alloc (by simp <;> omega) _).cell (p := ⟨gy, _, none⟩) hgyn).trans zn1, ((((below_drewN (Below.refl wn.heap.size wn) _).alloc (by simp) _).alloc (by simp <;> omega) _).cell (p := ⟨gy, _, none⟩) hgyn).trans zn2, ((((below_drewN (Below.refl wn.heap.size wn) _).alloc (by simp) _).alloc (by simp <;> omega) _).cell (p := ⟨gy, _, none⟩) hgyn).trans zn3, ((((below_drewN (Below.refl wn.heap.size wn) _).alloc (by simp) _).alloc (by simp <;> omega) _).cell (p := ⟨gy, _, none⟩) hgyn).trans zn4⟩) | go_keep
                      clear hK K
                      try simp only [Act.put, List.setIfInBounds_toArray, List.set_cons_zero, List.set_cons_succ, List.getElem_toArray, List.getElem_cons_succ, List.getElem_cons_zero]
                      refine wpAnyH_take (i := 15) (v := ?_) rfl (by kernel_rfl) (by kernel_rfl) (by kernel_rfl) (fun _ _ _ h => h) (Or.inl ⟨by rfl, ?_⟩) (by assumption) ?_
                      rotate_left
                      · (intro w hSw; (try dsimp only at hSw); go_simp) <;> with_reducible rfl
                      try simp only [Act.put, List.setIfInBounds_toArray, List.set_cons_zero, List.set_cons_succ, List.getElem_toArray, List.getElem_cons_succ, List.getElem_cons_zero]
                      refine wpAnyH_done (by kernel_rfl) ?_ _
                      have Hb9 := Lib.hid (Hbn.out.trans (q6.mono hszn))
                      have Ho9 : Hid (w6.ownsRow w.heap.size 58 5 (.slice A6 (q + 1 + (O.length - q)) c6) (q + 1 + (O.length - q)) (binRow (O.take q ++ y :: O.drop q))) := by rw [binRow_ins O y q hq]; exact Lib.hid (own_base ho6 hszn)
                      have HLL : Hid ((O.take q ++ y :: O.drop q).length = q + 1 + (O.length - q)) := Lib.hid (by simp [List.length_take]; omega)
                      clear ho4 hg4 hor4 ho5 hg5 hor5 ho6 hg6 hor6
                      go_wp2
                      go_roundw
                      case rel => exact ⟨O.take q ++ y :: O.drop q, A6, c6, k + 1, by rw [HLL.out], by go_num, by omega, by rw [HLL.out]; omega, HN.out, by rw [HLL.out]; exact Ho9.out, by first | exact Hb9.out | exact Hb9.out.drew⟩
                      case measure => simp [intOf]; omega
                  · skip
                    try dsimp only [List.getElem_toArray, List.getElem_cons_succ, List.getElem_cons_zero]
                    go_simp
                    refine hK.out _ _ ?_ (fun hHeld => ?_)
                    · (try dsimp only); first | (go_split_ands; exact ⟨by assumption, by assumption, by assumption, by assumption, by assumption⟩) | (exact ⟨(q6.cell (p := ⟨gy, _, none⟩) hgyn).trans zn0, (q6.cell (p := ⟨gy, _, none⟩) hgyn).trans zn1, (q6.cell (p := ⟨gy, _, none⟩) hgyn).trans zn2, (q6.cell (p := ⟨gy, _, none⟩) hgyn).trans zn3, (q6.cell (p := ⟨gy, _, none⟩) hgyn).trans zn4⟩) | (exact ⟨(q5.cell (p := ⟨gy, _, none⟩) hgyn).trans zn0, (q5.cell (p := ⟨gy, _, none⟩) hgyn).trans zn1, (q5.cell (p := ⟨gy, _, none⟩) hgyn).trans zn2, (q5.cell (p := ⟨gy, _, none⟩) hgyn).trans zn3, (q5.cell (p := ⟨gy, _, none⟩) hgyn).trans zn4⟩) | (exact ⟨(q4.cell (p := ⟨gy, _, none⟩) hgyn).trans zn0, (q4.cell (p := ⟨gy, _, none⟩) hgyn).trans zn1, (q4.cell (p := ⟨gy, _, none⟩) hgyn).trans zn2, (q4.cell (p := ⟨gy, _, none⟩) hgyn).trans zn3, (q4.cell (p := ⟨gy, _, none⟩) hgyn).trans zn4⟩) | (exact ⟨((q4.alloc q4.size _).cell (p := ⟨gy, _, none⟩) hgyn).trans zn0, ((q4.alloc q4.size _).cell (p := ⟨gy, _, none⟩) hgyn).trans zn1, ((q4.alloc q4.size _).cell (p := ⟨gy, _, none⟩) hgyn).trans zn2, ((q4.alloc q4.size _).cell (p := ⟨gy, _, none⟩) hgyn).trans zn3, ((q4.alloc q4.size _).cell (p := ⟨gy, _, none⟩) hgyn).trans zn4⟩) | (exact ⟨((below_drewN (Below.refl wn.heap.size wn) _).cell (p := ⟨gy, _, none⟩) hgyn).trans zn0, ((below_drewN (Below.refl wn.heap.size wn) _).cell (p := ⟨gy, _, none⟩) hgyn).trans zn1, ((below_drewN (Below.refl wn.heap.size wn) _).cell (p := ⟨gy, _, none⟩) hgyn).trans zn2, ((below_drewN (Below.refl wn.heap.size wn) _).cell (p := ⟨gy, _, none⟩) hgyn).trans zn3, ((below_drewN (Below.refl wn.heap.size wn) _).cell (p := ⟨gy, _, none⟩) hgyn).trans zn4⟩) | (exact ⟨(((below_drewN (Below.refl wn.heap.size wn) _).alloc (by simp) _).cell (p := ⟨gy, _, none⟩) hgyn).trans zn0, (((below_drewN (Below.refl wn.heap.size wn) _).alloc (by simp) _).cell (p := ⟨gy, _, none⟩) hgyn).trans zn1, (((below_drewN (Below.refl wn.heap.size wn) _).alloc (by simp) _).cell (p := ⟨gy, _, none⟩) hgyn).trans zn2, (((below_drewN (Below.refl wn.heap.size wn) _).alloc (by simp) _).cell (p := ⟨gy, _, none⟩) hgyn).trans zn3, (((below_drewN (Below.refl wn.heap.size wn) _).alloc (by simp) _).cell (p := ⟨gy, _, none⟩) hgyn).trans zn4⟩) | (exact ⟨((((below_drewN (Below.refl wn.heap.size wn) _).alloc (by simp) _).alloc (by simp <;> omega) _).cell (p := ⟨gy, _, none⟩) hgyn).trans zn0, ((((below_drewN (Below.refl wn.heap.size wn) _).alloc (by simp) _).alloc (by simp <;> omega) _).cell (p := ⟨gy, _, none⟩) hgyn).trans zn1, ((((below_drewN (Below.refl wn.heap.size wn) _).alloc (by simp) _).alloc (by simp <;> omega) _).cell (p := ⟨gy, _, none⟩) hgyn).trans zn2, ((((below_drewN (Below.refl wn.heap.size wn) _).alloc (by simp) _).alloc (by simp <;> omega) _).cell (p := ⟨gy, _, none⟩) hgyn).trans zn3, ((((below_drewN (Below.refl wn.heap.size wn) _).alloc (by simp) _).alloc (by simp <;> omega) _).cell (p := ⟨gy, _, none⟩) hgyn).trans zn4⟩) | go_keep
                    clear hK K
                    try simp only [Act.put, List.setIfInBounds_toArray, List.set_cons_zero, List.set_cons_succ, List.getElem_toArray, List.getElem_cons_succ, List.getElem_cons_zero]
                    refine wpAnyH_ready (rs := [0]) (by kernel_rfl) (by simp) ?_
                    refine AllReadyH.cons rfl (fun K hK => ?_) AllReadyH.nil
                    try dsimp only [List.getElem_toArray, List.getElem_cons_succ, List.getElem_cons_zero]
                    go_simp
                    refine hK.out _ _ ?_ (fun hHeld => ?_)
                    · (try dsimp only); first | (go_split_ands; exact ⟨by assumption, by assumption, by assumption, by assumption, by assumption⟩) | (exact ⟨(q6.cell (p := ⟨gy, _, none⟩) hgyn).trans zn0, (q6.cell (p := ⟨gy, _, none⟩) hgyn).trans zn1, (q6.cell (p := ⟨gy, _, none⟩) hgyn).trans zn2, (q6.cell (p := ⟨gy, _, none⟩) hgyn).trans zn3, (q6.cell (p := ⟨gy, _, none⟩) hgyn).trans zn4⟩) | (exact ⟨(q5.cell (p := ⟨gy, _, none⟩) hgyn).trans zn0, (q5.cell (p := ⟨gy, _, none⟩) hgyn).trans zn1, (q5.cell (p := ⟨gy, _, none⟩) hgyn).trans zn2, (q5.cell (p := ⟨gy, _, none⟩) hgyn).trans zn3, (q5.cell (p := ⟨gy, _, none⟩) hgyn).trans zn4⟩) | (exact ⟨(q4.cell (p := ⟨gy, _, none⟩) hgyn).trans zn0, (q4.cell (p := ⟨gy, _, none⟩) hgyn).trans zn1, (q4.cell (p := ⟨gy, _, none⟩) hgyn).trans zn2, (q4.cell (p := ⟨gy, _, none⟩) hgyn).trans zn3, (q4.cell (p := ⟨gy, _, none⟩) hgyn).trans zn4⟩) | (exact ⟨((q4.alloc q4.size _).cell (p := ⟨gy, _, none⟩) hgyn).trans zn0, ((q4.alloc q4.size _).cell (p := ⟨gy, _, none⟩) hgyn).trans zn1, ((q4.alloc q4.size _).cell (p := ⟨gy, _, none⟩) hgyn).trans zn2, ((q4.alloc q4.size _).cell (p := ⟨gy, _, none⟩) hgyn).trans zn3, ((q4.alloc q4.size _).cell (p := ⟨gy, _, none⟩) hgyn).trans zn4⟩) | (exact ⟨((below_drewN (Below.refl wn.heap.size wn) _).cell (p := ⟨gy, _, none⟩) hgyn).trans zn0, ((below_drewN (Below.refl wn.heap.size wn) _).cell (p := ⟨gy, _, none⟩) hgyn).trans zn1, ((below_drewN (Below.refl wn.heap.size wn) _).cell (p := ⟨gy, _, none⟩) hgyn).trans zn2, ((below_drewN (Below.refl wn.heap.size wn) _).cell (p := ⟨gy, _, none⟩) hgyn).trans zn3, ((below_drewN (Below.refl wn.heap.size wn) _).cell (p := ⟨gy, _, none⟩) hgyn).trans zn4⟩) | (exact ⟨(((below_drewN (Below.refl wn.heap.size wn) _).alloc (by simp) _).cell (p := ⟨gy, _, none⟩) hgyn).trans zn0, (((below_drewN (Below.refl wn.heap.size wn) _).alloc (by simp) _).cell (p := ⟨gy, _, none⟩) hgyn).trans zn1, (((below_drewN (Below.refl wn.heap.size wn) _).alloc (by simp) _).cell (p := ⟨gy, _, none⟩) hgyn).trans zn2, (((below_drewN (Below.refl wn.heap.size wn) _).alloc (by simp) _).cell (p := ⟨gy, _, none⟩) hgyn).trans zn3, (((below_drewN (Below.refl wn.heap.size wn) _).alloc (by simp) _).cell (p := ⟨gy, _, none⟩) hgyn).trans zn4⟩) | (exact ⟨((((below_drewN (Below.refl wn.heap.size wn) _).alloc (by simp) _).alloc (by simp <;> omega) _).cell (p := ⟨gy, _, none⟩) hgyn).trans zn0, ((((below_drewN (Below.refl wn.heap.size wn) _).alloc (by simp) _).alloc (by simp <;> omega) _).cell (p := ⟨gy, _, none⟩) hgyn).trans zn1, ((((below_drewN (Below.refl wn.heap.size wn) _).alloc (by simp) _).alloc (by simp <;> omega) _).cell (p := ⟨gy, _, none⟩) hgyn).trans zn2, ((((below_drewN (Below.refl wn.heap.size wn) _).alloc (by simp) _).alloc (by simp <;> omega) _).cell (p := ⟨gy, _, none⟩) hgyn).trans zn3, ((((below_drewN (Below.refl wn.heap.size wn) _).alloc (by simp) _).alloc (by simp <;> omega) _).cell (p := ⟨gy, _, none⟩) hgyn).trans zn4⟩) | go_keep
                    clear hK K
                    try simp only [Act.put, List.setIfInBounds_toArray, List.set_cons_zero, List.set_cons_succ, List.getElem_toArray, List.getElem_cons_succ, List.getElem_cons_zero]
                    refine wpAnyH_ready (rs := [4]) (by kernel_rfl) (by simp) ?_
                    refine AllReadyH.cons rfl (fun K hK => ?_) AllReadyH.nil
                    (refine step_append_sl _ (by rfl) (.tmp 75) (.tmp 78) _ (by rfl) wn.heap.size 58 i0 _ 5 48 Try.underlying25 hi hz0 hz1 hz2 rfl (by omega) (.slice (some ⟨_, 0, none⟩) 0 0) 0 [] (by rfl) (by first | exact own_empty' _ _ _ (by simp <;> omega) (by simp) | exact (own_empty' _ _ _ (by simp <;> omega) (by simp)).alloc _) _ q co ((binRow O).take (q * 5)) (by rfl) (by first | exact Rd.alloc' (Rd.take (Rd.drewN (Rd.of_own Hon.out) _) hq) _ | exact Rd.alloc' (Rd.alloc' (Rd.take (Rd.drewN (Rd.of_own Hon.out) _) hq) _) _) (fun u hu => binRow_one O u (List.mem_of_mem_take hu)) (by unfold maxLen; omega) (by omega) (by simp <;> omega) ?_; intro A4 c4 w4 ho4 hg4 hor4; simp only [Nat.zero_add, List.nil_append] at ho4 ⊢; have T4 := Lib.hid (World.ownsRow.lt ho4); have q4 : Below wn.heap.size wn w4 := (by first | exact Below.grown ((below_drewN (Below.refl _ _) _).alloc (by simp) _) hg4 (by simp <;> omega) (fun g hg => by simp [Value.ownBlock] at hg; omega) | exact Below.grown (((below_drewN (Below.refl _ _) _).alloc (by simp) _).alloc (by simp <;> omega) _) hg4 (by simp <;> omega) (fun g hg => by simp [Value.ownBlock] at hg; omega)))
                    refine hK.out _ _ ?_ (fun hHeld => ?_)
                    · (try dsimp only); first | (go_split_ands; exact ⟨by assumption, by assumption, by assumption, by assumption, by assumption⟩) | (exact ⟨(q6.cell (p := ⟨gy, _, none⟩) hgyn).trans zn0, (q6.cell (p := ⟨gy, _, none⟩) hgyn).trans zn1, (q6.cell (p := ⟨gy, _, none⟩) hgyn).trans zn2, (q6.cell (p := ⟨gy, _, none⟩) hgyn).trans zn3, (q6.cell (p := ⟨gy, _, none⟩) hgyn).trans zn4⟩) | (exact ⟨(q5.cell (p := ⟨gy, _, none⟩) hgyn).trans zn0, (q5.cell (p := ⟨gy, _, none⟩) hgyn).trans zn1, (q5.cell (p := ⟨gy, _, none⟩) hgyn).trans zn2, (q5.cell (p := ⟨gy, _, none⟩) hgyn).trans zn3, (q5.cell (p := ⟨gy, _, none⟩) hgyn).trans zn4⟩) | (exact ⟨(q4.cell (p := ⟨gy, _, none⟩) hgyn).trans zn0, (q4.cell (p := ⟨gy, _, none⟩) hgyn).trans zn1, (q4.cell (p := ⟨gy, _, none⟩) hgyn).trans zn2, (q4.cell (p := ⟨gy, _, none⟩) hgyn).trans zn3, (q4.cell (p := ⟨gy, _, none⟩) hgyn).trans zn4⟩) | (exact ⟨((q4.alloc q4.size _).cell (p := ⟨gy, _, none⟩) hgyn).trans zn0, ((q4.alloc q4.size _).cell (p := ⟨gy, _, none⟩) hgyn).trans zn1, ((q4.alloc q4.size _).cell (p := ⟨gy, _, none⟩) hgyn).trans zn2, ((q4.alloc q4.size _).cell (p := ⟨gy, _, none⟩) hgyn).trans zn3, ((q4.alloc q4.size _).cell (p := ⟨gy, _, none⟩) hgyn).trans zn4⟩) | (exact ⟨((below_drewN (Below.refl wn.heap.size wn) _).cell (p := ⟨gy, _, none⟩) hgyn).trans zn0, ((below_drewN (Below.refl wn.heap.size wn) _).cell (p := ⟨gy, _, none⟩) hgyn).trans zn1, ((below_drewN (Below.refl wn.heap.size wn) _).cell (p := ⟨gy, _, none⟩) hgyn).trans zn2, ((below_drewN (Below.refl wn.heap.size wn) _).cell (p := ⟨gy, _, none⟩) hgyn).trans zn3, ((below_drewN (Below.refl wn.heap.size wn) _).cell (p := ⟨gy, _, none⟩) hgyn).trans zn4⟩) | (exact ⟨(((below_drewN (Below.refl wn.heap.size wn) _).alloc (by simp) _).cell (p := ⟨gy, _, none⟩) hgyn).trans zn0, (((below_drewN (Below.refl wn.heap.size wn) _).alloc (by simp) _).cell (p := ⟨gy, _, none⟩) hgyn).trans zn1, (((below_drewN (Below.refl wn.heap.size wn) _).alloc (by simp) _).cell (p := ⟨gy, _, none⟩) hgyn).trans zn2, (((below_drewN (Below.refl wn.heap.size wn) _).alloc (by simp) _).cell (p := ⟨gy, _, none⟩) hgyn).trans zn3, (((below_drewN (Below.refl wn.heap.size wn) _).alloc (by simp) _).cell (p := ⟨gy, _, none⟩) hgyn).trans zn4⟩) | (exact ⟨((((below_drewN (Below.refl wn.heap.size wn) _).alloc (by simp) _).alloc (by simp <;> omega) _).cell (p := ⟨gy, _, none⟩) hgyn).trans zn0, ((((below_drewN (Below.refl wn.heap.size wn) _).alloc (by simp) _).alloc (by simp <;> omega) _).cell (p := ⟨gy, _, none⟩) hgyn).trans zn1, ((((below_drewN (Below.refl wn.heap.size wn) _).alloc (by simp) _).alloc (by simp <;> omega) _).cell (p := ⟨gy, _, none⟩) hgyn).trans zn2, ((((below_drewN (Below.refl wn.heap.size wn) _).alloc (by simp) _).alloc (by simp <;> omega) _).cell (p := ⟨gy, _, none⟩) hgyn).trans zn3, ((((below_drewN (Below.refl wn.heap.size wn) _).alloc (by simp) _).alloc (by simp <;> omega) _).cell (p := ⟨gy, _, none⟩) hgyn).trans zn4⟩) | go_keep
                    clear hK K
                    try simp only [Act.put, List.setIfInBounds_toArray, List.set_cons_zero, List.set_cons_succ, List.getElem_toArray, List.getElem_cons_succ, List.getElem_cons_zero]
                    refine wpAnyH_ready (rs := [10]) (by kernel_rfl) (by simp) ?_
                    refine AllReadyH.cons rfl (fun K hK => ?_) AllReadyH.nil
                    (refine step_append_sl _ (by rfl) (.tmp 79) (.tmp 84) _ (by rfl) wn.heap.size 58 i0 _ 5 48 Try.underlying25 hi hz0 hz1 hz2 rfl (by omega) (.slice A4 q c4) q ((binRow O).take (q * 5)) (by rfl) ho4 (some _) 1 1 (binCells y) (by rfl) (by first | exact Rd.of_block (cs := #[.string y.code, .int .i64 y.amount, .int .i64 y.reserved, .int .i64 y.point, .int .i64 y.lot]) ((hg4.block _ (by simp <;> omega) (by simp [Value.ownBlock] <;> omega)).trans (heap_alloc2_new _ _ _)) rfl | exact Rd.of_block (cs := #[.string y.code, .int .i64 y.amount, .int .i64 y.reserved, .int .i64 y.point, .int .i64 y.lot]) ((hg4.block _ (by simp <;> omega) (by simp [Value.ownBlock] <;> omega)).trans (heap_alloc2_old _ _ _)) rfl) (binCells_one _) (by unfold maxLen; omega) (by omega) (by have := hg4.size; (try simp at this); simp <;> omega) ?_; intro A5 c5 w5 ho5 hg5 hor5; have T5 := Lib.hid (World.ownsRow.lt ho5); have q5 : Below wn.heap.size wn w5 := q4.grown hg5 q4.size (fun g hg => (T4.out g hg).1))
                    refine hK.out _ _ ?_ (fun hHeld => ?_)
                    · (try dsimp only); first | (go_split_ands; exact ⟨by assumption, by assumption, by assumption, by assumption, by assumption⟩) | (exact ⟨(q6.cell (p := ⟨gy, _, none⟩) hgyn).trans zn0, (q6.cell (p := ⟨gy, _, none⟩) hgyn).trans zn1, (q6.cell (p := ⟨gy, _, none⟩) hgyn).trans zn2, (q6.cell (p := ⟨gy, _, none⟩) hgyn).trans zn3, (q6.cell (p := ⟨gy, _, none⟩) hgyn).trans zn4⟩) | (exact ⟨(q5.cell (p := ⟨gy, _, none⟩) hgyn).trans zn0, (q5.cell (p := ⟨gy, _, none⟩) hgyn).trans zn1, (q5.cell (p := ⟨gy, _, none⟩) hgyn).trans zn2, (q5.cell (p := ⟨gy, _, none⟩) hgyn).trans zn3, (q5.cell (p := ⟨gy, _, none⟩) hgyn).trans zn4⟩) | (exact ⟨(q4.cell (p := ⟨gy, _, none⟩) hgyn).trans zn0, (q4.cell (p := ⟨gy, _, none⟩) hgyn).trans zn1, (q4.cell (p := ⟨gy, _, none⟩) hgyn).trans zn2, (q4.cell (p := ⟨gy, _, none⟩) hgyn).trans zn3, (q4.cell (p := ⟨gy, _, none⟩) hgyn).trans zn4⟩) | (exact ⟨((q4.alloc q4.size _).cell (p := ⟨gy, _, none⟩) hgyn).trans zn0, ((q4.alloc q4.size _).cell (p := ⟨gy, _, none⟩) hgyn).trans zn1, ((q4.alloc q4.size _).cell (p := ⟨gy, _, none⟩) hgyn).trans zn2, ((q4.alloc q4.size _).cell (p := ⟨gy, _, none⟩) hgyn).trans zn3, ((q4.alloc q4.size _).cell (p := ⟨gy, _, none⟩) hgyn).trans zn4⟩) | (exact ⟨((below_drewN (Below.refl wn.heap.size wn) _).cell (p := ⟨gy, _, none⟩) hgyn).trans zn0, ((below_drewN (Below.refl wn.heap.size wn) _).cell (p := ⟨gy, _, none⟩) hgyn).trans zn1, ((below_drewN (Below.refl wn.heap.size wn) _).cell (p := ⟨gy, _, none⟩) hgyn).trans zn2, ((below_drewN (Below.refl wn.heap.size wn) _).cell (p := ⟨gy, _, none⟩) hgyn).trans zn3, ((below_drewN (Below.refl wn.heap.size wn) _).cell (p := ⟨gy, _, none⟩) hgyn).trans zn4⟩) | (exact ⟨(((below_drewN (Below.refl wn.heap.size wn) _).alloc (by simp) _).cell (p := ⟨gy, _, none⟩) hgyn).trans zn0, (((below_drewN (Below.refl wn.heap.size wn) _).alloc (by simp) _).cell (p := ⟨gy, _, none⟩) hgyn).trans zn1, (((below_drewN (Below.refl wn.heap.size wn) _).alloc (by simp) _).cell (p := ⟨gy, _, none⟩) hgyn).trans zn2, (((below_drewN (Below.refl wn.heap.size wn) _).alloc (by simp) _).cell (p := ⟨gy, _, none⟩) hgyn).trans zn3, (((below_drewN (Below.refl wn.heap.size wn) _).alloc (by simp) _).cell (p := ⟨gy, _, none⟩) hgyn).trans zn4⟩) | (exact ⟨((((below_drewN (Below.refl wn.heap.size wn) _).alloc (by simp) _).alloc (by simp <;> omega) _).cell (p := ⟨gy, _, none⟩) hgyn).trans zn0, ((((below_drewN (Below.refl wn.heap.size wn) _).alloc (by simp) _).alloc (by simp <;> omega) _).cell (p := ⟨gy, _, none⟩) hgyn).trans zn1, ((((below_drewN (Below.refl wn.heap.size wn) _).alloc (by simp) _).alloc (by simp <;> omega) _).cell (p := ⟨gy, _, none⟩) hgyn).trans zn2, ((((below_drewN (Below.refl wn.heap.size wn) _).alloc (by simp) _).alloc (by simp <;> omega) _).cell (p := ⟨gy, _, none⟩) hgyn).trans zn3, ((((below_drewN (Below.refl wn.heap.size wn) _).alloc (by simp) _).alloc (by simp <;> omega) _).cell (p := ⟨gy, _, none⟩) hgyn).trans zn4⟩) | go_keep
                    clear hK K
                    try simp only [Act.put, List.setIfInBounds_toArray, List.set_cons_zero, List.set_cons_succ, List.getElem_toArray, List.getElem_cons_succ, List.getElem_cons_zero]
                    refine wpAnyH_ready (rs := [14]) (by kernel_rfl) (by simp) ?_
                    refine AllReadyH.cons rfl (fun K hK => ?_) AllReadyH.nil
                    (refine step_append_sl _ (by rfl) (.tmp 85) (.tmp 88) _ (by rfl) wn.heap.size 58 i0 _ 5 48 Try.underlying25 hi hz0 hz1 hz2 rfl (by omega) (.slice A5 (q + 1) c5) (q + 1) ((binRow O).take (q * 5) ++ binCells y) (by rfl) ho5 _ (O.length - q) (co - q) ((binRow O).drop (q * 5)) (by rfl) (by have z := (Rd.below (Rd.cut RD.out hq hco1) q5 (Nat.le_refl _)).more q5.size; first | exact z | (rw [cut_addr] at z; exact z)) (fun u hu => binRow_one O u (List.mem_of_mem_drop hu)) (by unfold maxLen; omega) (by omega) q5.size ?_; intro A6 c6 w6 ho6 hg6 hor6; have T6 := Lib.hid (World.ownsRow.lt ho6); have q6 : Below wn.heap.size wn w6 := q5.grown hg6 q5.size (fun g hg => (T5.out g hg).1))
                    refine hK.out _ _ ?_ (fun hHeld => ?_)
                    · (try dsimp only); first | (go_split_ands; exact ⟨by assumption, by assumption, by assumption, by assumption, by assumption⟩) | (exact ⟨(q6.cell (p := ⟨gy, _, none⟩) hgyn).trans zn0, (q6.cell (p := ⟨gy, _, none⟩) hgyn).trans zn1, (q6.cell (p := ⟨gy, _, none⟩) hgyn).trans zn2, (q6.cell (p := ⟨gy, _, none⟩) hgyn).trans zn3, (q6.cell (p := ⟨gy, _, none⟩) hgyn).trans zn4⟩) | (exact ⟨(q5.cell (p := ⟨gy, _, none⟩) hgyn).trans zn0, (q5.cell (p := ⟨gy, _, none⟩) hgyn).trans zn1, (q5.cell (p := ⟨gy, _, none⟩) hgyn).trans zn2, (q5.cell (p := ⟨gy, _, none⟩) hgyn).trans zn3, (q5.cell (p := ⟨gy, _, none⟩) hgyn).trans zn4⟩) | (exact ⟨(q4.cell (p := ⟨gy, _, none⟩) hgyn).trans zn0, (q4.cell (p := ⟨gy, _, none⟩) hgyn).trans zn1, (q4.cell (p := ⟨gy, _, none⟩) hgyn).trans zn2, (q4.cell (p := ⟨gy, _, none⟩) hgyn).trans zn3, (q4.cell (p := ⟨gy, _, none⟩) hgyn).trans zn4⟩) | (exact ⟨((q4.alloc q4.size _).cell (p := ⟨gy, _, none⟩) hgyn).trans zn0, ((q4.alloc q4.size _).cell (p := ⟨gy, _, none⟩) hgyn).trans zn1, ((q4.alloc q4.size _).cell (p := ⟨gy, _, none⟩) hgyn).trans zn2, ((q4.alloc q4.size _).cell (p := ⟨gy, _, none⟩) hgyn).trans zn3, ((q4.alloc q4.size _).cell (p := ⟨gy, _, none⟩) hgyn).trans zn4⟩) | (exact ⟨((below_drewN (Below.refl wn.heap.size wn) _).cell (p := ⟨gy, _, none⟩) hgyn).trans zn0, ((below_drewN (Below.refl wn.heap.size wn) _).cell (p := ⟨gy, _, none⟩) hgyn).trans zn1, ((below_drewN (Below.refl wn.heap.size wn) _).cell (p := ⟨gy, _, none⟩) hgyn).trans zn2, ((below_drewN (Below.refl wn.heap.size wn) _).cell (p := ⟨gy, _, none⟩) hgyn).trans zn3, ((below_drewN (Below.refl wn.heap.size wn) _).cell (p := ⟨gy, _, none⟩) hgyn).trans zn4⟩) | (exact ⟨(((below_drewN (Below.refl wn.heap.size wn) _).alloc (by simp) _).cell (p := ⟨gy, _, none⟩) hgyn).trans zn0, (((below_drewN (Below.refl wn.heap.size wn) _).alloc (by simp) _).cell (p := ⟨gy, _, none⟩) hgyn).trans zn1, (((below_drewN (Below.refl wn.heap.size wn) _).alloc (by simp) _).cell (p := ⟨gy, _, none⟩) hgyn).trans zn2, (((below_drewN (Below.refl wn.heap.size wn) _).alloc (by simp) _).cell (p := ⟨gy, _, none⟩) hgyn).trans zn3, (((below_drewN (Below.refl wn.heap.size wn) _).alloc (by simp) _).cell (p := ⟨gy, _, none⟩) hgyn).trans zn4⟩) | (exact ⟨((((below_drewN (Below.refl wn.heap.size wn) _).alloc (by simp) _).alloc (by simp <;> omega) _).cell (p := ⟨gy, _, none⟩) hgyn).trans zn0, ((((below_drewN (Below.refl wn.heap.size wn) _).alloc (by simp) _).alloc (by simp <;> omega) _).cell (p := ⟨gy, _, none⟩) hgyn).trans zn1, ((((below_drewN (Below.refl wn.heap.size wn) _).alloc (by simp) _).alloc (by simp <;> omega) _).cell (p := ⟨gy, _, none⟩) hgyn).trans zn2, ((((below_drewN (Below.refl wn.heap.size wn) _).alloc (by simp) _).alloc (by simp <;> omega) _).cell (p := ⟨gy, _, none⟩) hgyn).trans zn3, ((((below_drewN (Below.refl wn.heap.size wn) _).alloc (by simp) _).alloc (by simp <;> omega) _).cell (p := ⟨gy, _, none⟩) hgyn).trans zn4⟩) | go_keep
                    clear hK K
                    try simp only [Act.put, List.setIfInBounds_toArray, List.set_cons_zero, List.set_cons_succ, List.getElem_toArray, List.getElem_cons_succ, List.getElem_cons_zero]
                    refine wpAnyH_take (i := 15) (v := ?_) rfl (by kernel_rfl) (by kernel_rfl) (by kernel_rfl) (fun _ _ _ h => h) (Or.inl ⟨by rfl, ?_⟩) (by assumption) ?_
                    rotate_left
                    · (intro w hSw; (try dsimp only at hSw); go_simp) <;> with_reducible rfl
                    try simp only [Act.put, List.setIfInBounds_toArray, List.set_cons_zero, List.set_cons_succ, List.getElem_toArray, List.getElem_cons_succ, List.getElem_cons_zero]
                    refine wpAnyH_done (by kernel_rfl) ?_ _
                    have Hb9 := Lib.hid (Hbn.out.trans (q6.mono hszn))
                    have Ho9 : Hid (w6.ownsRow w.heap.size 58 5 (.slice A6 (q + 1 + (O.length - q)) c6) (q + 1 + (O.length - q)) (binRow (O.take q ++ y :: O.drop q))) := by rw [binRow_ins O y q hq]; exact Lib.hid (own_base ho6 hszn)
                    have HLL : Hid ((O.take q ++ y :: O.drop q).length = q + 1 + (O.length - q)) := Lib.hid (by simp [List.length_take]; omega)
                    clear ho4 hg4 hor4 ho5 hg5 hor5 ho6 hg6 hor6
                    go_wp2
                    go_roundw
                    case rel => exact ⟨O.take q ++ y :: O.drop q, A6, c6, k + 1, by rw [HLL.out], by go_num, by omega, by rw [HLL.out]; omega, HN.out, by rw [HLL.out]; exact Ho9.out, by first | exact Hb9.out | exact Hb9.out.drew⟩
                    case measure => simp [intOf]; omega
            · have hq2 : q = O.length := by omega
              have jq1 : ¬ (q : Int) < (O.length : Int) := by omega
              have Hq2 := Lib.hid hq2
              clear hq2
              have HNO := Lib.hid (show ¬ (q < O.length ∧ (binAt O q).code = y.code) from fun h => by have := Hq2.out; omega)
              have HCC := Lib.hid (show q < O.length → codeLt (binAt O q).code y.code = false from fun h => by have := Hq2.out; omega)
              go_wp2
              refine wp_region_held_drew (S := (fun _ => True)) (by kernel_rfl) ?_ (fun hHeld => ?_)
              · (try dsimp only); first | done | trivial
              refine wpAnyH_take (i := 0) (v := ?_) rfl (by kernel_rfl) (by kernel_rfl) (by kernel_rfl) (fun _ _ _ h => h) (Or.inl ⟨by rfl, ?_⟩) (by assumption) ?_
              rotate_left
              · (intro w hSw; (try dsimp only at hSw); go_simp) <;> with_reducible rfl
              try simp only [Act.put, List.setIfInBounds_toArray, List.set_cons_zero, List.set_cons_succ, List.getElem_toArray, List.getElem_cons_succ, List.getElem_cons_zero]
              refine wpAnyH_take (i := 1) (v := ?_) rfl (by kernel_rfl) (by kernel_rfl) (by kernel_rfl) (fun _ _ _ h => h) (Or.inl ⟨by rfl, ?_⟩) (by assumption) ?_
              rotate_left
              · (intro w hSw; (try dsimp only at hSw); go_simp) <;> with_reducible rfl
              try simp only [Act.put, List.setIfInBounds_toArray, List.set_cons_zero, List.set_cons_succ, List.getElem_toArray, List.getElem_cons_succ, List.getElem_cons_zero]
              refine wpAnyH_take (i := 2) (v := ?_) rfl (by kernel_rfl) (by kernel_rfl) (by kernel_rfl) (fun _ _ _ h => h) (Or.inl ⟨by rfl, ?_⟩) (by assumption) ?_
              rotate_left
              · (intro w hSw; (try dsimp only at hSw); go_simp) <;> with_reducible rfl
              try simp only [Act.put, List.setIfInBounds_toArray, List.set_cons_zero, List.set_cons_succ, List.getElem_toArray, List.getElem_cons_succ, List.getElem_cons_zero]
              refine wpAnyH_take (i := 3) (v := ?_) rfl (by kernel_rfl) (by kernel_rfl) (by kernel_rfl) (fun _ _ _ h => h) (Or.inl ⟨by rfl, ?_⟩) (by assumption) ?_
              rotate_left
              · (intro w hSw; (try dsimp only at hSw); go_simp) <;> with_reducible rfl
              try simp only [Act.put, List.setIfInBounds_toArray, List.set_cons_zero, List.set_cons_succ, List.getElem_toArray, List.getElem_cons_succ, List.getElem_cons_zero]
              refine wpAnyH_take (i := 4) (v := ?_) rfl (by kernel_rfl) (by kernel_rfl) (by kernel_rfl) (fun _ _ _ h => h) (Or.inl ⟨by rfl, ?_⟩) (by assumption) ?_
              rotate_left
              · (intro w hSw; (try dsimp only at hSw); go_simp) <;> with_reducible rfl
              try simp only [Act.put, List.setIfInBounds_toArray, List.set_cons_zero, List.set_cons_succ, List.getElem_toArray, List.getElem_cons_succ, List.getElem_cons_zero]
              refine wpAnyH_take (i := 5) (v := undef) rfl (by kernel_rfl) (by kernel_rfl) (by kernel_rfl) (fun _ _ _ h => h) (Or.inr ⟨by rfl, rfl⟩) (by assumption) ?_
              try simp only [Act.put, List.setIfInBounds_toArray, List.set_cons_zero, List.set_cons_succ, List.getElem_toArray, List.getElem_cons_succ, List.getElem_cons_zero]
              refine wpAnyH_take (i := 6) (v := undef) rfl (by kernel_rfl) (by kernel_rfl) (by kernel_rfl) (fun _ _ _ h => h) (Or.inr ⟨by rfl, rfl⟩) (by assumption) ?_
              try simp only [Act.put, List.setIfInBounds_toArray, List.set_cons_zero, List.set_cons_succ, List.getElem_toArray, List.getElem_cons_succ, List.getElem_cons_zero]
              refine wpAnyH_take (i := 7) (v := undef) rfl (by kernel_rfl) (by kernel_rfl) (by kernel_rfl) (fun _ _ _ h => h) (Or.inr ⟨by rfl, rfl⟩) (by assumption) ?_
              try simp only [Act.put, List.setIfInBounds_toArray, List.set_cons_zero, List.set_cons_succ, List.getElem_toArray, List.getElem_cons_succ, List.getElem_cons_zero]
              refine wpAnyH_take (i := 8) (v := undef) rfl (by kernel_rfl) (by kernel_rfl) (by kernel_rfl) (fun _ _ _ h => h) (Or.inr ⟨by rfl, rfl⟩) (by assumption) ?_
              try simp only [Act.put, List.setIfInBounds_toArray, List.set_cons_zero, List.set_cons_succ, List.getElem_toArray, List.getElem_cons_succ, List.getElem_cons_zero]
              refine wpAnyH_take (i := 9) (v := undef) rfl (by kernel_rfl) (by kernel_rfl) (by kernel_rfl) (fun _ _ _ h => h) (Or.inr ⟨by rfl, rfl⟩) (by assumption) ?_
              try simp only [Act.put, List.setIfInBounds_toArray, List.set_cons_zero, List.set_cons_succ, List.getElem_toArray, List.getElem_cons_succ, List.getElem_cons_zero]
              refine wpAnyH_take (i := 10) (v := undef) rfl (by kernel_rfl) (by kernel_rfl) (by kernel_rfl) (fun _ _ _ h => h) (Or.inr ⟨by rfl, rfl⟩) (by assumption) ?_
              try simp only [Act.put, List.setIfInBounds_toArray, List.set_cons_zero, List.set_cons_succ, List.getElem_toArray, List.getElem_cons_succ, List.getElem_cons_zero]
              refine wpAnyH_take (i := 11) (v := undef) rfl (by kernel_rfl) (by kernel_rfl) (by kernel_rfl) (fun _ _ _ h => h) (Or.inr ⟨by rfl, rfl⟩) (by assumption) ?_
              try simp only [Act.put, List.setIfInBounds_toArray, List.set_cons_zero, List.set_cons_succ, List.getElem_toArray, List.getElem_cons_succ, List.getElem_cons_zero]
              refine wpAnyH_take (i := 12) (v := undef) rfl (by kernel_rfl) (by kernel_rfl) (by kernel_rfl) (fun _ _ _ h => h) (Or.inr ⟨by rfl, rfl⟩) (by assumption) ?_
              try simp only [Act.put, List.setIfInBounds_toArray, List.set_cons_zero, List.set_cons_succ, List.getElem_toArray, List.getElem_cons_succ, List.getElem_cons_zero]
              refine wpAnyH_take (i := 13) (v := undef) rfl (by kernel_rfl) (by kernel_rfl) (by kernel_rfl) (fun _ _ _ h => h) (Or.inr ⟨by rfl, rfl⟩) (by assumption) ?_
              try simp only [Act.put, List.setIfInBounds_toArray, List.set_cons_zero, List.set_cons_succ, List.getElem_toArray, List.getElem_cons_succ, List.getElem_cons_zero]
              refine wpAnyH_take (i := 14) (v := undef) rfl (by kernel_rfl) (by kernel_rfl) (by kernel_rfl) (fun _ _ _ h => h) (Or.inr ⟨by rfl, rfl⟩) (by assumption) ?_
              try simp only [Act.put, List.setIfInBounds_toArray, List.set_cons_zero, List.set_cons_succ, List.getElem_toArray, List.getElem_cons_succ, List.getElem_cons_zero]
              refine wpAnyH_take (i := 15) (v := undef) rfl (by kernel_rfl) (by kernel_rfl) (by kernel_rfl) (fun _ _ _ h => h) (Or.inr ⟨by rfl, rfl⟩) (by assumption) ?_
              try simp only [Act.put, List.setIfInBounds_toArray, List.set_cons_zero, List.set_cons_succ, List.getElem_toArray, List.getElem_cons_succ, List.getElem_cons_zero]
              refine wpAnyH_take (i := 16) (v := ?_) rfl (by kernel_rfl) (by kernel_rfl) (by kernel_rfl) (fun _ _ _ h => h) (Or.inl ⟨by rfl, ?_⟩) (by assumption) ?_
              rotate_left
              · (intro w hSw; (try dsimp only at hSw); go_simp) <;> with_reducible rfl
              try simp only [Act.put, List.setIfInBounds_toArray, List.set_cons_zero, List.set_cons_succ, List.getElem_toArray, List.getElem_cons_succ, List.getElem_cons_zero]
              refine wpAnyH_done (by kernel_rfl) ?_ _
              go_wp2
              refine wp_region_held_drew (S := (fun _ => True)) (by kernel_rfl) ?_ (fun hHeld => ?_)
              · (try dsimp only); first | done | trivial
              refine wpAnyH_take (i := 0) (v := ?_) rfl (by kernel_rfl) (by kernel_rfl) (by kernel_rfl) (fun _ _ _ h => h) (Or.inl ⟨by rfl, ?_⟩) (by assumption) ?_
              rotate_left
              · (intro w hSw; (try dsimp only at hSw); go_simp) <;> with_reducible rfl
              try simp only [Act.put, List.setIfInBounds_toArray, List.set_cons_zero, List.set_cons_succ, List.getElem_toArray, List.getElem_cons_succ, List.getElem_cons_zero]
              refine wpAnyH_take (i := 1) (v := ?_) rfl (by kernel_rfl) (by kernel_rfl) (by kernel_rfl) (fun _ _ _ h => h) (Or.inl ⟨by rfl, ?_⟩) (by assumption) ?_
              rotate_left
              · (intro w hSw; (try dsimp only at hSw); go_simp) <;> with_reducible rfl
              try simp only [Act.put, List.setIfInBounds_toArray, List.set_cons_zero, List.set_cons_succ, List.getElem_toArray, List.getElem_cons_succ, List.getElem_cons_zero]
              refine wpAnyH_take (i := 2) (v := ?_) rfl (by kernel_rfl) (by kernel_rfl) (by kernel_rfl) (fun _ _ _ h => h) (Or.inl ⟨by rfl, ?_⟩) (by assumption) ?_
              rotate_left
              · (intro w hSw; (try dsimp only at hSw); go_simp) <;> with_reducible rfl
              try simp only [Act.put, List.setIfInBounds_toArray, List.set_cons_zero, List.set_cons_succ, List.getElem_toArray, List.getElem_cons_succ, List.getElem_cons_zero]
              refine wpAnyH_take (i := 3) (v := ?_) rfl (by kernel_rfl) (by kernel_rfl) (by kernel_rfl) (fun _ _ _ h => h) (Or.inl ⟨by rfl, ?_⟩) (by assumption) ?_
              rotate_left
              · (intro w hSw; (try dsimp only at hSw); go_simp) <;> with_reducible rfl
              try simp only [Act.put, List.setIfInBounds_toArray, List.set_cons_zero, List.set_cons_succ, List.getElem_toArray, List.getElem_cons_succ, List.getElem_cons_zero]
              refine wpAnyH_take (i := 4) (v := ?_) rfl (by kernel_rfl) (by kernel_rfl) (by kernel_rfl) (fun _ _ _ h => h) (Or.inl ⟨by rfl, ?_⟩) (by assumption) ?_
              rotate_left
              · (intro w hSw; (try dsimp only at hSw); go_simp) <;> with_reducible rfl
              try simp only [Act.put, List.setIfInBounds_toArray, List.set_cons_zero, List.set_cons_succ, List.getElem_toArray, List.getElem_cons_succ, List.getElem_cons_zero]
              refine wpAnyH_take (i := 5) (v := undef) rfl (by kernel_rfl) (by kernel_rfl) (by kernel_rfl) (fun _ _ _ h => h) (Or.inr ⟨by rfl, rfl⟩) (by assumption) ?_
              try simp only [Act.put, List.setIfInBounds_toArray, List.set_cons_zero, List.set_cons_succ, List.getElem_toArray, List.getElem_cons_succ, List.getElem_cons_zero]
              refine wpAnyH_take (i := 6) (v := undef) rfl (by kernel_rfl) (by kernel_rfl) (by kernel_rfl) (fun _ _ _ h => h) (Or.inr ⟨by rfl, rfl⟩) (by assumption) ?_
              try simp only [Act.put, List.setIfInBounds_toArray, List.set_cons_zero, List.set_cons_succ, List.getElem_toArray, List.getElem_cons_succ, List.getElem_cons_zero]
              refine wpAnyH_take (i := 7) (v := undef) rfl (by kernel_rfl) (by kernel_rfl) (by kernel_rfl) (fun _ _ _ h => h) (Or.inr ⟨by rfl, rfl⟩) (by assumption) ?_
              try simp only [Act.put, List.setIfInBounds_toArray, List.set_cons_zero, List.set_cons_succ, List.getElem_toArray, List.getElem_cons_succ, List.getElem_cons_zero]
              refine wpAnyH_take (i := 8) (v := undef) rfl (by kernel_rfl) (by kernel_rfl) (by kernel_rfl) (fun _ _ _ h => h) (Or.inr ⟨by rfl, rfl⟩) (by assumption) ?_
              try simp only [Act.put, List.setIfInBounds_toArray, List.set_cons_zero, List.set_cons_succ, List.getElem_toArray, List.getElem_cons_succ, List.getElem_cons_zero]
              refine wpAnyH_take (i := 9) (v := undef) rfl (by kernel_rfl) (by kernel_rfl) (by kernel_rfl) (fun _ _ _ h => h) (Or.inr ⟨by rfl, rfl⟩) (by assumption) ?_
              try simp only [Act.put, List.setIfInBounds_toArray, List.set_cons_zero, List.set_cons_succ, List.getElem_toArray, List.getElem_cons_succ, List.getElem_cons_zero]
              refine wpAnyH_take (i := 10) (v := undef) rfl (by kernel_rfl) (by kernel_rfl) (by kernel_rfl) (fun _ _ _ h => h) (Or.inr ⟨by rfl, rfl⟩) (by assumption) ?_
              try simp only [Act.put, List.setIfInBounds_toArray, List.set_cons_zero, List.set_cons_succ, List.getElem_toArray, List.getElem_cons_succ, List.getElem_cons_zero]
              refine wpAnyH_take (i := 11) (v := undef) rfl (by kernel_rfl) (by kernel_rfl) (by kernel_rfl) (fun _ _ _ h => h) (Or.inr ⟨by rfl, rfl⟩) (by assumption) ?_
              try simp only [Act.put, List.setIfInBounds_toArray, List.set_cons_zero, List.set_cons_succ, List.getElem_toArray, List.getElem_cons_succ, List.getElem_cons_zero]
              refine wpAnyH_take (i := 12) (v := undef) rfl (by kernel_rfl) (by kernel_rfl) (by kernel_rfl) (fun _ _ _ h => h) (Or.inr ⟨by rfl, rfl⟩) (by assumption) ?_
              try simp only [Act.put, List.setIfInBounds_toArray, List.set_cons_zero, List.set_cons_succ, List.getElem_toArray, List.getElem_cons_succ, List.getElem_cons_zero]
              refine wpAnyH_take (i := 13) (v := undef) rfl (by kernel_rfl) (by kernel_rfl) (by kernel_rfl) (fun _ _ _ h => h) (Or.inr ⟨by rfl, rfl⟩) (by assumption) ?_
              try simp only [Act.put, List.setIfInBounds_toArray, List.set_cons_zero, List.set_cons_succ, List.getElem_toArray, List.getElem_cons_succ, List.getElem_cons_zero]
              refine wpAnyH_take (i := 14) (v := undef) rfl (by kernel_rfl) (by kernel_rfl) (by kernel_rfl) (fun _ _ _ h => h) (Or.inr ⟨by rfl, rfl⟩) (by assumption) ?_
              try simp only [Act.put, List.setIfInBounds_toArray, List.set_cons_zero, List.set_cons_succ, List.getElem_toArray, List.getElem_cons_succ, List.getElem_cons_zero]
              refine wpAnyH_take (i := 15) (v := undef) rfl (by kernel_rfl) (by kernel_rfl) (by kernel_rfl) (fun _ _ _ h => h) (Or.inr ⟨by rfl, rfl⟩) (by assumption) ?_
              try simp only [Act.put, List.setIfInBounds_toArray, List.set_cons_zero, List.set_cons_succ, List.getElem_toArray, List.getElem_cons_succ, List.getElem_cons_zero]
              refine wpAnyH_take (i := 16) (v := ?_) rfl (by kernel_rfl) (by kernel_rfl) (by kernel_rfl) (fun _ _ _ h => h) (Or.inl ⟨by rfl, ?_⟩) (by assumption) ?_
              rotate_left
              · (intro w hSw; (try dsimp only at hSw); go_simp) <;> with_reducible rfl
              try simp only [Act.put, List.setIfInBounds_toArray, List.set_cons_zero, List.set_cons_succ, List.getElem_toArray, List.getElem_cons_succ, List.getElem_cons_zero]
              refine wpAnyH_done (by kernel_rfl) ?_ _
              obtain ⟨wn, hwn⟩ : ∃ wn, wn = wr.drew.drew := ⟨_, rfl⟩
              rw [← hwn]
              have Hon := Lib.hid (show wn.ownsRow w.heap.size 58 5 (.slice _ O.length co) O.length (binRow O) by rw [hwn]; exact Hot.out)
              have Hbn : Hid (Below w.heap.size w wn) := by rw [hwn]; exact Lib.hid (Hbt.out.drew.drew)
              have hszn := Hbn.out.size
              have zn0 : wn.cell? ⟨gy, oy + k * 5, none⟩ = some (.string y.code) := by rw [hwn]; exact z0
              have zn1 : wn.cell? ⟨gy, oy + k * 5 + 1, none⟩ = some (.int .i64 y.amount) := by rw [hwn]; exact z1
              have zn2 : wn.cell? ⟨gy, oy + k * 5 + 2, none⟩ = some (.int .i64 y.reserved) := by rw [hwn]; exact z2
              have zn3 : wn.cell? ⟨gy, oy + k * 5 + 3, none⟩ = some (.int .i64 y.point) := by rw [hwn]; exact z3
              have zn4 : wn.cell? ⟨gy, oy + k * 5 + 4, none⟩ = some (.int .i64 y.lot) := by rw [hwn]; exact z4
              have hgyn : gy < wn.heap.size := block_lt_cell zn0
              clear hwn
              have jq2 : (0 : Int) ≤ (q : Int) := Int.natCast_nonneg _
              have jq3 : (q : Int) ≤ (O.length : Int) := by omega
              have jq4 : q ≤ O.length := hq
              obtain ⟨_, hco1, hco2⟩ := own_caps Hon.out
              unfold maxLen at hco2
              have jq5 : (q : Int) ≤ (co : Int) := by omega
              have jq6 : (O.length : Int) ≤ (co : Int) := by omega
              have jq7 : q ≤ co := by omega
              have RD := Lib.hid (Rd.of_own Hon.out)
              have HN : Hid (O.take q ++ y :: O.drop q = mergeGo A (B.take (k + 1))) := by
                rw [HMT.out, ← HO.out, insR_at O y q hq Hall.out HCC.out, if_neg HNO.out]; exact Lib.hid rfl
              go_wp2
              refine wp_region_held_drew (S := (fun w' => w'.cell? ⟨gy, oy + k * 5, none⟩ = some (.string y.code) ∧ w'.cell? ⟨gy, oy + k * 5 + 1, none⟩ = some (.int .i64 y.amount) ∧ w'.cell? ⟨gy, oy + k * 5 + 2, none⟩ = some (.int .i64 y.reserved) ∧ w'.cell? ⟨gy, oy + k * 5 + 3, none⟩ = some (.int .i64 y.point) ∧ w'.cell? ⟨gy, oy + k * 5 + 4, none⟩ = some (.int .i64 y.lot))) (by kernel_rfl) ?_ (fun hHeld => ?_)
              · (try dsimp only); first | (go_split_ands; exact ⟨by assumption, by assumption, by assumption, by assumption, by assumption⟩) | (exact ⟨(q6.cell (p := ⟨gy, _, none⟩) hgyn).trans zn0, (q6.cell (p := ⟨gy, _, none⟩) hgyn).trans zn1, (q6.cell (p := ⟨gy, _, none⟩) hgyn).trans zn2, (q6.cell (p := ⟨gy, _, none⟩) hgyn).trans zn3, (q6.cell (p := ⟨gy, _, none⟩) hgyn).trans zn4⟩) | (exact ⟨(q5.cell (p := ⟨gy, _, none⟩) hgyn).trans zn0, (q5.cell (p := ⟨gy, _, none⟩) hgyn).trans zn1, (q5.cell (p := ⟨gy, _, none⟩) hgyn).trans zn2, (q5.cell (p := ⟨gy, _, none⟩) hgyn).trans zn3, (q5.cell (p := ⟨gy, _, none⟩) hgyn).trans zn4⟩) | (exact ⟨(q4.cell (p := ⟨gy, _, none⟩) hgyn).trans zn0, (q4.cell (p := ⟨gy, _, none⟩) hgyn).trans zn1, (q4.cell (p := ⟨gy, _, none⟩) hgyn).trans zn2, (q4.cell (p := ⟨gy, _, none⟩) hgyn).trans zn3, (q4.cell (p := ⟨gy, _, none⟩) hgyn).trans zn4⟩) | (exact ⟨((q4.alloc q4.size _).cell (p := ⟨gy, _, none⟩) hgyn).trans zn0, ((q4.alloc q4.size _).cell (p := ⟨gy, _, none⟩) hgyn).trans zn1, ((q4.alloc q4.size _).cell (p := ⟨gy, _, none⟩) hgyn).trans zn2, ((q4.alloc q4.size _).cell (p := ⟨gy, _, none⟩) hgyn).trans zn3, ((q4.alloc q4.size _).cell (p := ⟨gy, _, none⟩) hgyn).trans zn4⟩) | (exact ⟨((below_drewN (Below.refl wn.heap.size wn) _).cell (p := ⟨gy, _, none⟩) hgyn).trans zn0, ((below_drewN (Below.refl wn.heap.size wn) _).cell (p := ⟨gy, _, none⟩) hgyn).trans zn1, ((below_drewN (Below.refl wn.heap.size wn) _).cell (p := ⟨gy, _, none⟩) hgyn).trans zn2, ((below_drewN (Below.refl wn.heap.size wn) _).cell (p := ⟨gy, _, none⟩) hgyn).trans zn3, ((below_drewN (Below.refl wn.heap.size wn) _).cell (p := ⟨gy, _, none⟩) hgyn).trans zn4⟩) | (exact ⟨(((below_drewN (Below.refl wn.heap.size wn) _).alloc (by simp) _).cell (p := ⟨gy, _, none⟩) hgyn).trans zn0, (((below_drewN (Below.refl wn.heap.size wn) _).alloc (by simp) _).cell (p := ⟨gy, _, none⟩) hgyn).trans zn1, (((below_drewN (Below.refl wn.heap.size wn) _).alloc (by simp) _).cell (p := ⟨gy, _, none⟩) hgyn).trans zn2, (((below_drewN (Below.refl wn.heap.size wn) _).alloc (by simp) _).cell (p := ⟨gy, _, none⟩) hgyn).trans zn3, (((below_drewN (Below.refl wn.heap.size wn) _).alloc (by simp) _).cell (p := ⟨gy, _, none⟩) hgyn).trans zn4⟩) | (exact ⟨((((below_drewN (Below.refl wn.heap.size wn) _).alloc (by simp) _).alloc (by simp <;> omega) _).cell (p := ⟨gy, _, none⟩) hgyn).trans zn0, ((((below_drewN (Below.refl wn.heap.size wn) _).alloc (by simp) _).alloc (by simp <;> omega) _).cell (p := ⟨gy, _, none⟩) hgyn).trans zn1, ((((below_drewN (Below.refl wn.heap.size wn) _).alloc (by simp) _).alloc (by simp <;> omega) _).cell (p := ⟨gy, _, none⟩) hgyn).trans zn2, ((((below_drewN (Below.refl wn.heap.size wn) _).alloc (by simp) _).alloc (by simp <;> omega) _).cell (p := ⟨gy, _, none⟩) hgyn).trans zn3, ((((below_drewN (Below.refl wn.heap.size wn) _).alloc (by simp) _).alloc (by simp <;> omega) _).cell (p := ⟨gy, _, none⟩) hgyn).trans zn4⟩) | go_keep
              refine wpAnyH_take (i := 1) (v := ?_) rfl (by kernel_rfl) (by kernel_rfl) (by kernel_rfl) (fun _ _ _ h => h) (Or.inl ⟨by rfl, ?_⟩) (by assumption) ?_
              rotate_left
              · (intro w hSw; (try dsimp only at hSw); go_simp) <;> with_reducible rfl
              try simp only [Act.put, List.setIfInBounds_toArray, List.set_cons_zero, List.set_cons_succ, List.getElem_toArray, List.getElem_cons_succ, List.getElem_cons_zero]
              refine wpAnyH_take (i := 2) (v := ?_) rfl (by kernel_rfl) (by kernel_rfl) (by kernel_rfl) (fun _ _ _ h => h) (Or.inl ⟨by rfl, ?_⟩) (by assumption) ?_
              rotate_left
              · (intro w hSw; (try dsimp only at hSw); go_simp) <;> with_reducible rfl
              try simp only [Act.put, List.setIfInBounds_toArray, List.set_cons_zero, List.set_cons_succ, List.getElem_toArray, List.getElem_cons_succ, List.getElem_cons_zero]
              refine wpAnyH_take (i := 3) (v := ?_) rfl (by kernel_rfl) (by kernel_rfl) (by kernel_rfl) (fun _ _ _ h => h) (Or.inl ⟨by rfl, ?_⟩) (by assumption) ?_
              rotate_left
              · (intro w hSw; (try dsimp only at hSw); go_simp) <;> with_reducible rfl
              try simp only [Act.put, List.setIfInBounds_toArray, List.set_cons_zero, List.set_cons_succ, List.getElem_toArray, List.getElem_cons_succ, List.getElem_cons_zero]
              refine wpAnyH_take (i := 5) (v := ?_) rfl (by kernel_rfl) (by kernel_rfl) (by kernel_rfl) (fun _ _ _ h => h) (Or.inl ⟨by rfl, ?_⟩) (by assumption) ?_
              rotate_left
              · (intro w hSw; (try dsimp only at hSw); go_simp) <;> with_reducible rfl
              try simp only [Act.put, List.setIfInBounds_toArray, List.set_cons_zero, List.set_cons_succ, List.getElem_toArray, List.getElem_cons_succ, List.getElem_cons_zero]
              refine wpAnyH_take (i := 6) (v := ?_) rfl (by kernel_rfl) (by kernel_rfl) (by kernel_rfl) (fun _ _ _ h => h) (Or.inl ⟨by rfl, ?_⟩) (by assumption) ?_
              rotate_left
              · (intro w hSw; (try dsimp only at hSw); go_simp) <;> with_reducible rfl
              try simp only [Act.put, List.setIfInBounds_toArray, List.set_cons_zero, List.set_cons_succ, List.getElem_toArray, List.getElem_cons_succ, List.getElem_cons_zero]
              refine wpAnyH_take (i := 7) (v := ?_) rfl (by kernel_rfl) (by kernel_rfl) (by kernel_rfl) (fun _ _ _ h => h) (Or.inl ⟨by rfl, ?_⟩) (by assumption) ?_
              rotate_left
              · (intro w hSw; (try dsimp only at hSw); go_simp) <;> with_reducible rfl
              try simp only [Act.put, List.setIfInBounds_toArray, List.set_cons_zero, List.set_cons_succ, List.getElem_toArray, List.getElem_cons_succ, List.getElem_cons_zero]
              refine wpAnyH_take (i := 8) (v := ?_) rfl (by kernel_rfl) (by kernel_rfl) (by kernel_rfl) (fun _ _ _ h => h) (Or.inl ⟨by rfl, ?_⟩) (by assumption) ?_
              rotate_left
              · (intro w hSw; (try dsimp only at hSw); go_simp) <;> with_reducible rfl
              try simp only [Act.put, List.setIfInBounds_toArray, List.set_cons_zero, List.set_cons_succ, List.getElem_toArray, List.getElem_cons_succ, List.getElem_cons_zero]
              refine wpAnyH_take (i := 11) (v := ?_) rfl (by kernel_rfl) (by kernel_rfl) (by kernel_rfl) (fun _ _ _ h => h) (Or.inl ⟨by rfl, ?_⟩) (by assumption) ?_
              rotate_left
              · (intro w hSw; (try dsimp only at hSw); go_simp) <;> with_reducible rfl
              try simp only [Act.put, List.setIfInBounds_toArray, List.set_cons_zero, List.set_cons_succ, List.getElem_toArray, List.getElem_cons_succ, List.getElem_cons_zero]
              refine wpAnyH_take (i := 12) (v := ?_) rfl (by kernel_rfl) (by kernel_rfl) (by kernel_rfl) (fun _ _ _ h => h) (Or.inl ⟨by rfl, ?_⟩) (by assumption) ?_
              rotate_left
              · (intro w hSw; (try dsimp only at hSw); go_simp) <;> with_reducible rfl
              try simp only [Act.put, List.setIfInBounds_toArray, List.set_cons_zero, List.set_cons_succ, List.getElem_toArray, List.getElem_cons_succ, List.getElem_cons_zero]
              refine wpAnyH_take (i := 13) (v := ?_) rfl (by kernel_rfl) (by kernel_rfl) (by kernel_rfl) (fun _ _ _ h => h) (Or.inl ⟨by rfl, ?_⟩) (by assumption) ?_
              rotate_left
              · (intro w hSw; (try dsimp only at hSw); go_simp) <;> with_reducible rfl
              try simp only [Act.put, List.setIfInBounds_toArray, List.set_cons_zero, List.set_cons_succ, List.getElem_toArray, List.getElem_cons_succ, List.getElem_cons_zero]
              refine wpAnyH_ready (rs := [0, 9]) (by kernel_rfl) (by simp) ?_
              refine (AllReadyH.cons rfl (fun K hK => ?_) (AllReadyH.cons rfl (fun K hK => ?_) AllReadyH.nil))
              · skip
                try dsimp only [List.getElem_toArray, List.getElem_cons_succ, List.getElem_cons_zero]
                go_simp
                refine hK.out _ _ ?_ (fun hHeld => ?_)
                · (try dsimp only); first | (go_split_ands; exact ⟨by assumption, by assumption, by assumption, by assumption, by assumption⟩) | (exact ⟨(q6.cell (p := ⟨gy, _, none⟩) hgyn).trans zn0, (q6.cell (p := ⟨gy, _, none⟩) hgyn).trans zn1, (q6.cell (p := ⟨gy, _, none⟩) hgyn).trans zn2, (q6.cell (p := ⟨gy, _, none⟩) hgyn).trans zn3, (q6.cell (p := ⟨gy, _, none⟩) hgyn).trans zn4⟩) | (exact ⟨(q5.cell (p := ⟨gy, _, none⟩) hgyn).trans zn0, (q5.cell (p := ⟨gy, _, none⟩) hgyn).trans zn1, (q5.cell (p := ⟨gy, _, none⟩) hgyn).trans zn2, (q5.cell (p := ⟨gy, _, none⟩) hgyn).trans zn3, (q5.cell (p := ⟨gy, _, none⟩) hgyn).trans zn4⟩) | (exact ⟨(q4.cell (p := ⟨gy, _, none⟩) hgyn).trans zn0, (q4.cell (p := ⟨gy, _, none⟩) hgyn).trans zn1, (q4.cell (p := ⟨gy, _, none⟩) hgyn).trans zn2, (q4.cell (p := ⟨gy, _, none⟩) hgyn).trans zn3, (q4.cell (p := ⟨gy, _, none⟩) hgyn).trans zn4⟩) | (exact ⟨((q4.alloc q4.size _).cell (p := ⟨gy, _, none⟩) hgyn).trans zn0, ((q4.alloc q4.size _).cell (p := ⟨gy, _, none⟩) hgyn).trans zn1, ((q4.alloc q4.size _).cell (p := ⟨gy, _, none⟩) hgyn).trans zn2, ((q4.alloc q4.size _).cell (p := ⟨gy, _, none⟩) hgyn).trans zn3, ((q4.alloc q4.size _).cell (p := ⟨gy, _, none⟩) hgyn).trans zn4⟩) | (exact ⟨((below_drewN (Below.refl wn.heap.size wn) _).cell (p := ⟨gy, _, none⟩) hgyn).trans zn0, ((below_drewN (Below.refl wn.heap.size wn) _).cell (p := ⟨gy, _, none⟩) hgyn).trans zn1, ((below_drewN (Below.refl wn.heap.size wn) _).cell (p := ⟨gy, _, none⟩) hgyn).trans zn2, ((below_drewN (Below.refl wn.heap.size wn) _).cell (p := ⟨gy, _, none⟩) hgyn).trans zn3, ((below_drewN (Below.refl wn.heap.size wn) _).cell (p := ⟨gy, _, none⟩) hgyn).trans zn4⟩) | (exact ⟨(((below_drewN (Below.refl wn.heap.size wn) _).alloc (by simp) _).cell (p := ⟨gy, _, none⟩) hgyn).trans zn0, (((below_drewN (Below.refl wn.heap.size wn) _).alloc (by simp) _).cell (p := ⟨gy, _, none⟩) hgyn).trans zn1, (((below_drewN (Below.refl wn.heap.size wn) _).alloc (by simp) _).cell (p := ⟨gy, _, none⟩) hgyn).trans zn2, (((below_drewN (Below.refl wn.heap.size wn) _).alloc (by simp) _).cell (p := ⟨gy, _, none⟩) hgyn).trans zn3, (((below_drewN (Below.refl wn.heap.size wn) _).alloc (by simp) _).cell (p := ⟨gy, _, none⟩) hgyn).trans zn4⟩) | (exact ⟨((((below_drewN (Below.refl wn.heap.size wn) _).alloc (by simp) _).alloc (by simp <;> omega) _).cell (p := ⟨gy, _, none⟩) hgyn).trans zn0, ((((below_drewN (Below.refl wn.heap.size wn) _).alloc (by simp) _).alloc (by simp <;> omega) _).cell (p := ⟨gy, _, none⟩) hgyn).trans zn1, ((((below_drewN (Below.refl wn.heap.size wn) _).alloc (by simp) _).alloc (by simp <;> omega) _).cell (p := ⟨gy, _, none⟩) hgyn).trans zn2, ((((below_drewN (Below.refl wn.heap.size wn) _).alloc (by simp) _).alloc (by simp <;> omega) _).cell (p := ⟨gy, _, none⟩) hgyn).trans zn3, ((((below_drewN (Below.refl wn.heap.size wn) _).alloc (by simp) _).alloc (by simp <;> omega) _).cell (p := ⟨gy, _, none⟩) hgyn).trans zn4⟩) | go_keep
                clear hK K
                try simp only [Act.put, List.setIfInBounds_toArray, List.set_cons_zero, List.set_cons_succ, List.getElem_toArray, List.getElem_cons_succ, List.getElem_cons_zero]
                refine wpAnyH_ready (rs := [4, 9]) (by kernel_rfl) (by simp) ?_
                refine (AllReadyH.cons rfl (fun K hK => ?_) (AllReadyH.cons rfl (fun K hK => ?_) AllReadyH.nil))
                · skip
                  (refine step_append_sl _ (by rfl) (.tmp 75) (.tmp 78) _ (by rfl) wn.heap.size 58 i0 _ 5 48 Try.underlying25 hi hz0 hz1 hz2 rfl (by omega) (.slice (some ⟨_, 0, none⟩) 0 0) 0 [] (by rfl) (by first | exact own_empty' _ _ _ (by simp <;> omega) (by simp) | exact (own_empty' _ _ _ (by simp <;> omega) (by simp)).alloc _) _ q co ((binRow O).take (q * 5)) (by rfl) (by first | exact Rd.alloc' (Rd.take (Rd.drewN (Rd.of_own Hon.out) _) hq) _ | exact Rd.alloc' (Rd.alloc' (Rd.take (Rd.drewN (Rd.of_own Hon.out) _) hq) _) _) (fun u hu => binRow_one O u (List.mem_of_mem_take hu)) (by unfold maxLen; omega) (by omega) (by simp <;> omega) ?_; intro A4 c4 w4 ho4 hg4 hor4; simp only [Nat.zero_add, List.nil_append] at ho4 ⊢; have T4 := Lib.hid (World.ownsRow.lt ho4); have q4 : Below wn.heap.size wn w4 := (by first | exact Below.grown ((below_drewN (Below.refl _ _) _).alloc (by simp) _) hg4 (by simp <;> omega) (fun g hg => by simp [Value.ownBlock] at hg; omega) | exact Below.grown (((below_drewN (Below.refl _ _) _).alloc (by simp) _).alloc (by simp <;> omega) _) hg4 (by simp <;> omega) (fun g hg => by simp [Value.ownBlock] at hg; omega)))
                  refine hK.out _ _ ?_ (fun hHeld => ?_)
                  · (try dsimp only); first | (go_split_ands; exact ⟨by assumption, by assumption, by assumption, by assumption, by assumption⟩) | (exact ⟨(q6.cell (p := ⟨gy, _, none⟩) hgyn).trans zn0, (q6.cell (p := ⟨gy, _, none⟩) hgyn).trans zn1, (q6.cell (p := ⟨gy, _, none⟩) hgyn).trans zn2, (q6.cell (p := ⟨gy, _, none⟩) hgyn).trans zn3, (q6.cell (p := ⟨gy, _, none⟩) hgyn).trans zn4⟩) | (exact ⟨(q5.cell (p := ⟨gy, _, none⟩) hgyn).trans zn0, (q5.cell (p := ⟨gy, _, none⟩) hgyn).trans zn1, (q5.cell (p := ⟨gy, _, none⟩) hgyn).trans zn2, (q5.cell (p := ⟨gy, _, none⟩) hgyn).trans zn3, (q5.cell (p := ⟨gy, _, none⟩) hgyn).trans zn4⟩) | (exact ⟨(q4.cell (p := ⟨gy, _, none⟩) hgyn).trans zn0, (q4.cell (p := ⟨gy, _, none⟩) hgyn).trans zn1, (q4.cell (p := ⟨gy, _, none⟩) hgyn).trans zn2, (q4.cell (p := ⟨gy, _, none⟩) hgyn).trans zn3, (q4.cell (p := ⟨gy, _, none⟩) hgyn).trans zn4⟩) | (exact ⟨((q4.alloc q4.size _).cell (p := ⟨gy, _, none⟩) hgyn).trans zn0, ((q4.alloc q4.size _).cell (p := ⟨gy, _, none⟩) hgyn).trans zn1, ((q4.alloc q4.size _).cell (p := ⟨gy, _, none⟩) hgyn).trans zn2, ((q4.alloc q4.size _).cell (p := ⟨gy, _, none⟩) hgyn).trans zn3, ((q4.alloc q4.size _).cell (p := ⟨gy, _, none⟩) hgyn).trans zn4⟩) | (exact ⟨((below_drewN (Below.refl wn.heap.size wn) _).cell (p := ⟨gy, _, none⟩) hgyn).trans zn0, ((below_drewN (Below.refl wn.heap.size wn) _).cell (p := ⟨gy, _, none⟩) hgyn).trans zn1, ((below_drewN (Below.refl wn.heap.size wn) _).cell (p := ⟨gy, _, none⟩) hgyn).trans zn2, ((below_drewN (Below.refl wn.heap.size wn) _).cell (p := ⟨gy, _, none⟩) hgyn).trans zn3, ((below_drewN (Below.refl wn.heap.size wn) _).cell (p := ⟨gy, _, none⟩) hgyn).trans zn4⟩) | (exact ⟨(((below_drewN (Below.refl wn.heap.size wn) _).alloc (by simp) _).cell (p := ⟨gy, _, none⟩) hgyn).trans zn0, (((below_drewN (Below.refl wn.heap.size wn) _).alloc (by simp) _).cell (p := ⟨gy, _, none⟩) hgyn).trans zn1, (((below_drewN (Below.refl wn.heap.size wn) _).alloc (by simp) _).cell (p := ⟨gy, _, none⟩) hgyn).trans zn2, (((below_drewN (Below.refl wn.heap.size wn) _).alloc (by simp) _).cell (p := ⟨gy, _, none⟩) hgyn).trans zn3, (((below_drewN (Below.refl wn.heap.size wn) _).alloc (by simp) _).cell (p := ⟨gy, _, none⟩) hgyn).trans zn4⟩) | (exact ⟨((((below_drewN (Below.refl wn.heap.size wn) _).alloc (by simp) _).alloc (by simp <;> omega) _).cell (p := ⟨gy, _, none⟩) hgyn).trans zn0, ((((below_drewN (Below.refl wn.heap.size wn) _).alloc (by simp) _).alloc (by simp <;> omega) _).cell (p := ⟨gy, _, none⟩) hgyn).trans zn1, ((((below_drewN (Below.refl wn.heap.size wn) _).alloc (by simp) _).alloc (by simp <;> omega) _).cell (p := ⟨gy, _, none⟩) hgyn).trans zn2, ((((below_drewN (Below.refl wn.heap.size wn) _).alloc (by simp) _).alloc (by simp <;> omega) _).cell (p := ⟨gy, _, none⟩) hgyn).trans zn3, ((((below_drewN (Below.refl wn.heap.size wn) _).alloc (by simp) _).alloc (by simp <;> omega) _).cell (p := ⟨gy, _, none⟩) hgyn).trans zn4⟩) | go_keep
                  clear hK K
                  try simp only [Act.put, List.setIfInBounds_toArray, List.set_cons_zero, List.set_cons_succ, List.getElem_toArray, List.getElem_cons_succ, List.getElem_cons_zero]
                  refine wpAnyH_ready (rs := [9]) (by kernel_rfl) (by simp) ?_
                  refine AllReadyH.cons rfl (fun K hK => ?_) AllReadyH.nil
                  try dsimp only [List.getElem_toArray, List.getElem_cons_succ, List.getElem_cons_zero]
                  go_simp
                  refine hK.out _ _ ?_ (fun hHeld => ?_)
                  · (try dsimp only); first | (go_split_ands; exact ⟨by assumption, by assumption, by assumption, by assumption, by assumption⟩) | (exact ⟨(q6.cell (p := ⟨gy, _, none⟩) hgyn).trans zn0, (q6.cell (p := ⟨gy, _, none⟩) hgyn).trans zn1, (q6.cell (p := ⟨gy, _, none⟩) hgyn).trans zn2, (q6.cell (p := ⟨gy, _, none⟩) hgyn).trans zn3, (q6.cell (p := ⟨gy, _, none⟩) hgyn).trans zn4⟩) | (exact ⟨(q5.cell (p := ⟨gy, _, none⟩) hgyn).trans zn0, (q5.cell (p := ⟨gy, _, none⟩) hgyn).trans zn1, (q5.cell (p := ⟨gy, _, none⟩) hgyn).trans zn2, (q5.cell (p := ⟨gy, _, none⟩) hgyn).trans zn3, (q5.cell (p := ⟨gy, _, none⟩) hgyn).trans zn4⟩) | (exact ⟨(q4.cell (p := ⟨gy, _, none⟩) hgyn).trans zn0, (q4.cell (p := ⟨gy, _, none⟩) hgyn).trans zn1, (q4.cell (p := ⟨gy, _, none⟩) hgyn).trans zn2, (q4.cell (p := ⟨gy, _, none⟩) hgyn).trans zn3, (q4.cell (p := ⟨gy, _, none⟩) hgyn).trans zn4⟩) | (exact ⟨((q4.alloc q4.size _).cell (p := ⟨gy, _, none⟩) hgyn).trans zn0, ((q4.alloc q4.size _).cell (p := ⟨gy, _, none⟩) hgyn).trans zn1, ((q4.alloc q4.size _).cell (p := ⟨gy, _, none⟩) hgyn).trans zn2, ((q4.alloc q4.size _).cell (p := ⟨gy, _, none⟩) hgyn).trans zn3, ((q4.alloc q4.size _).cell (p := ⟨gy, _, none⟩) hgyn).trans zn4⟩) | (exact ⟨((below_drewN (Below.refl wn.heap.size wn) _).cell (p := ⟨gy, _, none⟩) hgyn).trans zn0, ((below_drewN (Below.refl wn.heap.size wn) _).cell (p := ⟨gy, _, none⟩) hgyn).trans zn1, ((below_drewN (Below.refl wn.heap.size wn) _).cell (p := ⟨gy, _, none⟩) hgyn).trans zn2, ((below_drewN (Below.refl wn.heap.size wn) _).cell (p := ⟨gy, _, none⟩) hgyn).trans zn3, ((below_drewN (Below.refl wn.heap.size wn) _).cell (p := ⟨gy, _, none⟩) hgyn).trans zn4⟩) | (exact ⟨(((below_drewN (Below.refl wn.heap.size wn) _).alloc (by simp) _).cell (p := ⟨gy, _, none⟩) hgyn).trans zn0, (((below_drewN (Below.refl wn.heap.size wn) _).alloc (by simp) _).cell (p := ⟨gy, _, none⟩) hgyn).trans zn1, (((below_drewN (Below.refl wn.heap.size wn) _).alloc (by simp) _).cell (p := ⟨gy, _, none⟩) hgyn).trans zn2, (((below_drewN (Below.refl wn.heap.size wn) _).alloc (by simp) _).cell (p := ⟨gy, _, none⟩) hgyn).trans zn3, (((below_drewN (Below.refl wn.heap.size wn) _).alloc (by simp) _).cell (p := ⟨gy, _, none⟩) hgyn).trans zn4⟩) | (exact ⟨((((below_drewN (Below.refl wn.heap.size wn) _).alloc (by simp) _).alloc (by simp <;> omega) _).cell (p := ⟨gy, _, none⟩) hgyn).trans zn0, ((((below_drewN (Below.refl wn.heap.size wn) _).alloc (by simp) _).alloc (by simp <;> omega) _).cell (p := ⟨gy, _, none⟩) hgyn).trans zn1, ((((below_drewN (Below.refl wn.heap.size wn) _).alloc (by simp) _).alloc (by simp <;> omega) _).cell (p := ⟨gy, _, none⟩) hgyn).trans zn2, ((((below_drewN (Below.refl wn.heap.size wn) _).alloc (by simp) _).alloc (by simp <;> omega) _).cell (p := ⟨gy, _, none⟩) hgyn).trans zn3, ((((below_drewN (Below.refl wn.heap.size wn) _).alloc (by simp) _).alloc (by simp <;> omega) _).cell (p := ⟨gy, _, none⟩) hgyn).trans zn4⟩) | go_keep
                  clear hK K
                  try simp only [Act.put, List.setIfInBounds_toArray, List.set_cons_zero, List.set_cons_succ, List.getElem_toArray, List.getElem_cons_succ, List.getElem_cons_zero]
                  refine wpAnyH_ready (rs := [10]) (by kernel_rfl) (by simp) ?_
                  refine AllReadyH.cons rfl (fun K hK => ?_) AllReadyH.nil
                  (refine step_append_sl _ (by rfl) (.tmp 79) (.tmp 84) _ (by rfl) wn.heap.size 58 i0 _ 5 48 Try.underlying25 hi hz0 hz1 hz2 rfl (by omega) (.slice A4 q c4) q ((binRow O).take (q * 5)) (by rfl) (ho4.alloc _) (some _) 1 1 (binCells y) (by rfl) (Rd.of_block (cs := #[.string y.code, .int .i64 y.amount, .int .i64 y.reserved, .int .i64 y.point, .int .i64 y.lot]) (heap_alloc_new _ _) rfl) (binCells_one _) (by unfold maxLen; omega) (by omega) (by have := hg4.size; (try simp at this); simp <;> omega) ?_; intro A5 c5 w5 ho5 hg5 hor5; have T5 := Lib.hid (World.ownsRow.lt ho5); have q5 : Below wn.heap.size wn w5 := (q4.alloc q4.size _).grown hg5 (by have := hg4.size; (try simp at this); simp <;> omega) (fun g hg => (T4.out g hg).1))
                  refine hK.out _ _ ?_ (fun hHeld => ?_)
                  · (try dsimp only); first | (go_split_ands; exact ⟨by assumption, by assumption, by assumption, by assumption, by assumption⟩) | (exact ⟨(q6.cell (p := ⟨gy, _, none⟩) hgyn).trans zn0, (q6.cell (p := ⟨gy, _, none⟩) hgyn).trans zn1, (q6.cell (p := ⟨gy, _, none⟩) hgyn).trans zn2, (q6.cell (p := ⟨gy, _, none⟩) hgyn).trans zn3, (q6.cell (p := ⟨gy, _, none⟩) hgyn).trans zn4⟩) | (exact ⟨(q5.cell (p := ⟨gy, _, none⟩) hgyn).trans zn0, (q5.cell (p := ⟨gy, _, none⟩) hgyn).trans zn1, (q5.cell (p := ⟨gy, _, none⟩) hgyn).trans zn2, (q5.cell (p := ⟨gy, _, none⟩) hgyn).trans zn3, (q5.cell (p := ⟨gy, _, none⟩) hgyn).trans zn4⟩) | (exact ⟨(q4.cell (p := ⟨gy, _, none⟩) hgyn).trans zn0, (q4.cell (p := ⟨gy, _, none⟩) hgyn).trans zn1, (q4.cell (p := ⟨gy, _, none⟩) hgyn).trans zn2, (q4.cell (p := ⟨gy, _, none⟩) hgyn).trans zn3, (q4.cell (p := ⟨gy, _, none⟩) hgyn).trans zn4⟩) | (exact ⟨((q4.alloc q4.size _).cell (p := ⟨gy, _, none⟩) hgyn).trans zn0, ((q4.alloc q4.size _).cell (p := ⟨gy, _, none⟩) hgyn).trans zn1, ((q4.alloc q4.size _).cell (p := ⟨gy, _, none⟩) hgyn).trans zn2, ((q4.alloc q4.size _).cell (p := ⟨gy, _, none⟩) hgyn).trans zn3, ((q4.alloc q4.size _).cell (p := ⟨gy, _, none⟩) hgyn).trans zn4⟩) | (exact ⟨((below_drewN (Below.refl wn.heap.size wn) _).cell (p := ⟨gy, _, none⟩) hgyn).trans zn0, ((below_drewN (Below.refl wn.heap.size wn) _).cell (p := ⟨gy, _, none⟩) hgyn).trans zn1, ((below_drewN (Below.refl wn.heap.size wn) _).cell (p := ⟨gy, _, none⟩) hgyn).trans zn2, ((below_drewN (Below.refl wn.heap.size wn) _).cell (p := ⟨gy, _, none⟩) hgyn).trans zn3, ((below_drewN (Below.refl wn.heap.size wn) _).cell (p := ⟨gy, _, none⟩) hgyn).trans zn4⟩) | (exact ⟨(((below_drewN (Below.refl wn.heap.size wn) _).alloc (by simp) _).cell (p := ⟨gy, _, none⟩) hgyn).trans zn0, (((below_drewN (Below.refl wn.heap.size wn) _).alloc (by simp) _).cell (p := ⟨gy, _, none⟩) hgyn).trans zn1, (((below_drewN (Below.refl wn.heap.size wn) _).alloc (by simp) _).cell (p := ⟨gy, _, none⟩) hgyn).trans zn2, (((below_drewN (Below.refl wn.heap.size wn) _).alloc (by simp) _).cell (p := ⟨gy, _, none⟩) hgyn).trans zn3, (((below_drewN (Below.refl wn.heap.size wn) _).alloc (by simp) _).cell (p := ⟨gy, _, none⟩) hgyn).trans zn4⟩) | (exact ⟨((((below_drewN (Below.refl wn.heap.size wn) _).alloc (by simp) _).alloc (by simp <;> omega) _).cell (p := ⟨gy, _, none⟩) hgyn).trans zn0, ((((below_drewN (Below.refl wn.heap.size wn) _).alloc (by simp) _).alloc (by simp <;> omega) _).cell (p := ⟨gy, _, none⟩) hgyn).trans zn1, ((((below_drewN (Below.refl wn.heap.size wn) _).alloc (by simp) _).alloc (by simp <;> omega) _).cell (p := ⟨gy, _, none⟩) hgyn).trans zn2, ((((below_drewN (Below.refl wn.heap.size wn) _).alloc (by simp) _).alloc (by simp <;> omega) _).cell (p := ⟨gy, _, none⟩) hgyn).trans zn3, ((((below_drewN (Below.refl wn.heap.size wn) _).alloc (by simp) _).alloc (by simp <;> omega) _).cell (p := ⟨gy, _, none⟩) hgyn).trans zn4⟩) | go_keep
                  clear hK K
                  try simp only [Act.put, List.setIfInBounds_toArray, List.set_cons_zero, List.set_cons_succ, List.getElem_toArray, List.getElem_cons_succ, List.getElem_cons_zero]
                  refine wpAnyH_ready (rs := [14]) (by kernel_rfl) (by simp) ?_
                  refine AllReadyH.cons rfl (fun K hK => ?_) AllReadyH.nil
                  (refine step_append_sl _ (by rfl) (.tmp 85) (.tmp 88) _ (by rfl) wn.heap.size 58 i0 _ 5 48 Try.underlying25 hi hz0 hz1 hz2 rfl (by omega) (.slice A5 (q + 1) c5) (q + 1) ((binRow O).take (q * 5) ++ binCells y) (by rfl) ho5 _ (O.length - q) (co - q) ((binRow O).drop (q * 5)) (by rfl) (by have z := (Rd.below (Rd.cut RD.out hq hco1) q5 (Nat.le_refl _)).more q5.size; first | exact z | (rw [cut_addr] at z; exact z)) (fun u hu => binRow_one O u (List.mem_of_mem_drop hu)) (by unfold maxLen; omega) (by omega) q5.size ?_; intro A6 c6 w6 ho6 hg6 hor6; have T6 := Lib.hid (World.ownsRow.lt ho6); have q6 : Below wn.heap.size wn w6 := q5.grown hg6 q5.size (fun g hg => (T5.out g hg).1))
                  refine hK.out _ _ ?_ (fun hHeld => ?_)
                  · (try dsimp only); first | (go_split_ands; exact ⟨by assumption, by assumption, by assumption, by assumption, by assumption⟩) | (exact ⟨(q6.cell (p := ⟨gy, _, none⟩) hgyn).trans zn0, (q6.cell (p := ⟨gy, _, none⟩) hgyn).trans zn1, (q6.cell (p := ⟨gy, _, none⟩) hgyn).trans zn2, (q6.cell (p := ⟨gy, _, none⟩) hgyn).trans zn3, (q6.cell (p := ⟨gy, _, none⟩) hgyn).trans zn4⟩) | (exact ⟨(q5.cell (p := ⟨gy, _, none⟩) hgyn).trans zn0, (q5.cell (p := ⟨gy, _, none⟩) hgyn).trans zn1, (q5.cell (p := ⟨gy, _, none⟩) hgyn).trans zn2, (q5.cell (p := ⟨gy, _, none⟩) hgyn).trans zn3, (q5.cell (p := ⟨gy, _, none⟩) hgyn).trans zn4⟩) | (exact ⟨(q4.cell (p := ⟨gy, _, none⟩) hgyn).trans zn0, (q4.cell (p := ⟨gy, _, none⟩) hgyn).trans zn1, (q4.cell (p := ⟨gy, _, none⟩) hgyn).trans zn2, (q4.cell (p := ⟨gy, _, none⟩) hgyn).trans zn3, (q4.cell (p := ⟨gy, _, none⟩) hgyn).trans zn4⟩) | (exact ⟨((q4.alloc q4.size _).cell (p := ⟨gy, _, none⟩) hgyn).trans zn0, ((q4.alloc q4.size _).cell (p := ⟨gy, _, none⟩) hgyn).trans zn1, ((q4.alloc q4.size _).cell (p := ⟨gy, _, none⟩) hgyn).trans zn2, ((q4.alloc q4.size _).cell (p := ⟨gy, _, none⟩) hgyn).trans zn3, ((q4.alloc q4.size _).cell (p := ⟨gy, _, none⟩) hgyn).trans zn4⟩) | (exact ⟨((below_drewN (Below.refl wn.heap.size wn) _).cell (p := ⟨gy, _, none⟩) hgyn).trans zn0, ((below_drewN (Below.refl wn.heap.size wn) _).cell (p := ⟨gy, _, none⟩) hgyn).trans zn1, ((below_drewN (Below.refl wn.heap.size wn) _).cell (p := ⟨gy, _, none⟩) hgyn).trans zn2, ((below_drewN (Below.refl wn.heap.size wn) _).cell (p := ⟨gy, _, none⟩) hgyn).trans zn3, ((below_drewN (Below.refl wn.heap.size wn) _).cell (p := ⟨gy, _, none⟩) hgyn).trans zn4⟩) | (exact ⟨(((below_drewN (Below.refl wn.heap.size wn) _).alloc (by simp) _).cell (p := ⟨gy, _, none⟩) hgyn).trans zn0, (((below_drewN (Below.refl wn.heap.size wn) _).alloc (by simp) _).cell (p := ⟨gy, _, none⟩) hgyn).trans zn1, (((below_drewN (Below.refl wn.heap.size wn) _).alloc (by simp) _).cell (p := ⟨gy, _, none⟩) hgyn).trans zn2, (((below_drewN (Below.refl wn.heap.size wn) _).alloc (by simp) _).cell (p := ⟨gy, _, none⟩) hgyn).trans zn3, (((below_drewN (Below.refl wn.heap.size wn) _).alloc (by simp) _).cell (p := ⟨gy, _, none⟩) hgyn).trans zn4⟩) | (exact ⟨((((below_drewN (Below.refl wn.heap.size wn) _).alloc (by simp) _).alloc (by simp <;> omega) _).cell (p := ⟨gy, _, none⟩) hgyn).trans zn0, ((((below_drewN (Below.refl wn.heap.size wn) _).alloc (by simp) _).alloc (by simp <;> omega) _).cell (p := ⟨gy, _, none⟩) hgyn).trans zn1, ((((below_drewN (Below.refl wn.heap.size wn) _).alloc (by simp) _).alloc (by simp <;> omega) _).cell (p := ⟨gy, _, none⟩) hgyn).trans zn2, ((((below_drewN (Below.refl wn.heap.size wn) _).alloc (by simp) _).alloc (by simp <;> omega) _).cell (p := ⟨gy, _, none⟩) hgyn).trans zn3, ((((below_drewN (Below.refl wn.heap.size wn) _).alloc (by simp) _).alloc (by simp <;> omega) _).cell (p := ⟨gy, _, none⟩) hgyn).trans zn4⟩) | go_keep
                  clear hK K
                  try simp only [Act.put, List.setIfInBounds_toArray, List.set_cons_zero, List.set_cons_succ, List.getElem_toArray, List.getElem_cons_succ, List.getElem_cons_zero]
                  refine wpAnyH_take (i := 15) (v := ?_) rfl (by kernel_rfl) (by kernel_rfl) (by kernel_rfl) (fun _ _ _ h => h) (Or.inl ⟨by rfl, ?_⟩) (by assumption) ?_
                  rotate_left
                  · (intro w hSw; (try dsimp only at hSw); go_simp) <;> with_reducible rfl
                  try simp only [Act.put, List.setIfInBounds_toArray, List.set_cons_zero, List.set_cons_succ, List.getElem_toArray, List.getElem_cons_succ, List.getElem_cons_zero]
                  refine wpAnyH_done (by kernel_rfl) ?_ _
                  have Hb9 := Lib.hid (Hbn.out.trans (q6.mono hszn))
                  have Ho9 : Hid (w6.ownsRow w.heap.size 58 5 (.slice A6 (q + 1 + (O.length - q)) c6) (q + 1 + (O.length - q)) (binRow (O.take q ++ y :: O.drop q))) := by rw [binRow_ins O y q hq]; exact Lib.hid (own_base ho6 hszn)
                  have HLL : Hid ((O.take q ++ y :: O.drop q).length = q + 1 + (O.length - q)) := Lib.hid (by simp [List.length_take]; omega)
                  clear ho4 hg4 hor4 ho5 hg5 hor5 ho6 hg6 hor6
                  go_wp2
                  go_roundw
                  case rel => exact ⟨O.take q ++ y :: O.drop q, A6, c6, k + 1, by rw [HLL.out], by go_num, by omega, by rw [HLL.out]; omega, HN.out, by rw [HLL.out]; exact Ho9.out, by first | exact Hb9.out | exact Hb9.out.drew⟩
                  case measure => simp [intOf]; omega
                · skip
                  try dsimp only [List.getElem_toArray, List.getElem_cons_succ, List.getElem_cons_zero]
                  go_simp
                  refine hK.out _ _ ?_ (fun hHeld => ?_)
                  · (try dsimp only); first | (go_split_ands; exact ⟨by assumption, by assumption, by assumption, by assumption, by assumption⟩) | (exact ⟨(q6.cell (p := ⟨gy, _, none⟩) hgyn).trans zn0, (q6.cell (p := ⟨gy, _, none⟩) hgyn).trans zn1, (q6.cell (p := ⟨gy, _, none⟩) hgyn).trans zn2, (q6.cell (p := ⟨gy, _, none⟩) hgyn).trans zn3, (q6.cell (p := ⟨gy, _, none⟩) hgyn).trans zn4⟩) | (exact ⟨(q5.cell (p := ⟨gy, _, none⟩) hgyn).trans zn0, (q5.cell (p := ⟨gy, _, none⟩) hgyn).trans zn1, (q5.cell (p := ⟨gy, _, none⟩) hgyn).trans zn2, (q5.cell (p := ⟨gy, _, none⟩) hgyn).trans zn3, (q5.cell (p := ⟨gy, _, none⟩) hgyn).trans zn4⟩) | (exact ⟨(q4.cell (p := ⟨gy, _, none⟩) hgyn).trans zn0, (q4.cell (p := ⟨gy, _, none⟩) hgyn).trans zn1, (q4.cell (p := ⟨gy, _, none⟩) hgyn).trans zn2, (q4.cell (p := ⟨gy, _, none⟩) hgyn).trans zn3, (q4.cell (p := ⟨gy, _, none⟩) hgyn).trans zn4⟩) | (exact ⟨((q4.alloc q4.size _).cell (p := ⟨gy, _, none⟩) hgyn).trans zn0, ((q4.alloc q4.size _).cell (p := ⟨gy, _, none⟩) hgyn).trans zn1, ((q4.alloc q4.size _).cell (p := ⟨gy, _, none⟩) hgyn).trans zn2, ((q4.alloc q4.size _).cell (p := ⟨gy, _, none⟩) hgyn).trans zn3, ((q4.alloc q4.size _).cell (p := ⟨gy, _, none⟩) hgyn).trans zn4⟩) | (exact ⟨((below_drewN (Below.refl wn.heap.size wn) _).cell (p := ⟨gy, _, none⟩) hgyn).trans zn0, ((below_drewN (Below.refl wn.heap.size wn) _).cell (p := ⟨gy, _, none⟩) hgyn).trans zn1, ((below_drewN (Below.refl wn.heap.size wn) _).cell (p := ⟨gy, _, none⟩) hgyn).trans zn2, ((below_drewN (Below.refl wn.heap.size wn) _).cell (p := ⟨gy, _, none⟩) hgyn).trans zn3, ((below_drewN (Below.refl wn.heap.size wn) _).cell (p := ⟨gy, _, none⟩) hgyn).trans zn4⟩) | (exact ⟨(((below_drewN (Below.refl wn.heap.size wn) _).alloc (by simp) _).cell (p := ⟨gy, _, none⟩) hgyn).trans zn0, (((below_drewN (Below.refl wn.heap.size wn) _).alloc (by simp) _).cell (p := ⟨gy, _, none⟩) hgyn).trans zn1, (((below_drewN (Below.refl wn.heap.size wn) _).alloc (by simp) _).cell (p := ⟨gy, _, none⟩) hgyn).trans zn2, (((below_drewN (Below.refl wn.heap.size wn) _).alloc (by simp) _).cell (p := ⟨gy, _, none⟩) hgyn).trans zn3, (((below_drewN (Below.refl wn.heap.size wn) _).alloc (by simp) _).cell (p := ⟨gy, _, none⟩) hgyn).trans zn4⟩) | (exact ⟨((((below_drewN (Below.refl wn.heap.size wn) _).alloc (by simp) _).alloc (by simp <;> omega) _).cell (p := ⟨gy, _, none⟩) hgyn).trans zn0, ((((below_drewN (Below.refl wn.heap.size wn) _).alloc (by simp) _).alloc (by simp <;> omega) _).cell (p := ⟨gy, _, none⟩) hgyn).trans zn1, ((((below_drewN (Below.refl wn.heap.size wn) _).alloc (by simp) _).alloc (by simp <;> omega) _).cell (p := ⟨gy, _, none⟩) hgyn).trans zn2, ((((below_drewN (Below.refl wn.heap.size wn) _).alloc (by simp) _).alloc (by simp <;> omega) _).cell (p := ⟨gy, _, none⟩) hgyn).trans zn3, ((((below_drewN (Below.refl wn.heap.size wn) _).alloc (by simp) _).alloc (by simp <;> omega) _).cell (p := ⟨gy, _, none⟩) hgyn).trans zn4⟩) | go_keep
                  clear hK K
                  try simp only [Act.put, List.setIfInBounds_toArray, List.set_cons_zero, List.set_cons_succ, List.getElem_toArray, List.getElem_cons_succ, List.getElem_cons_zero]
                  refine wpAnyH_ready (rs := [4]) (by kernel_rfl) (by simp) ?_
                  refine AllReadyH.cons rfl (fun K hK => ?_) AllReadyH.nil
                  (refine step_append_sl _ (by rfl) (.tmp 75) (.tmp 78) _ (by rfl) wn.heap.size 58 i0 _ 5 48 Try.underlying25 hi hz0 hz1 hz2 rfl (by omega) (.slice (some ⟨_, 0, none⟩) 0 0) 0 [] (by rfl) (by first | exact own_empty' _ _ _ (by simp <;> omega) (by simp) | exact (own_empty' _ _ _ (by simp <;> omega) (by simp)).alloc _) _ q co ((binRow O).take (q * 5)) (by rfl) (by first | exact Rd.alloc' (Rd.take (Rd.drewN (Rd.of_own Hon.out) _) hq) _ | exact Rd.alloc' (Rd.alloc' (Rd.take (Rd.drewN (Rd.of_own Hon.out) _) hq) _) _) (fun u hu => binRow_one O u (List.mem_of_mem_take hu)) (by unfold maxLen; omega) (by omega) (by simp <;> omega) ?_; intro A4 c4 w4 ho4 hg4 hor4; simp only [Nat.zero_add, List.nil_append] at ho4 ⊢; have T4 := Lib.hid (World.ownsRow.lt ho4); have q4 : Below wn.heap.size wn w4 := (by first | exact Below.grown ((below_drewN (Below.refl _ _) _).alloc (by simp) _) hg4 (by simp <;> omega) (fun g hg => by simp [Value.ownBlock] at hg; omega) | exact Below.grown (((below_drewN (Below.refl _ _) _).alloc (by simp) _).alloc (by simp <;> omega) _) hg4 (by simp <;> omega) (fun g hg => by simp [Value.ownBlock] at hg; omega)))
                  refine hK.out _ _ ?_ (fun hHeld => ?_)
                  · (try dsimp only); first | (go_split_ands; exact ⟨by assumption, by assumption, by assumption, by assumption, by assumption⟩) | (exact ⟨(q6.cell (p := ⟨gy, _, none⟩) hgyn).trans zn0, (q6.cell (p := ⟨gy, _, none⟩) hgyn).trans zn1, (q6.cell (p := ⟨gy, _, none⟩) hgyn).trans zn2, (q6.cell (p := ⟨gy, _, none⟩) hgyn).trans zn3, (q6.cell (p := ⟨gy, _, none⟩) hgyn).trans zn4⟩) | (exact ⟨(q5.cell (p := ⟨gy, _, none⟩) hgyn).trans zn0, (q5.cell (p := ⟨gy, _, none⟩) hgyn).trans zn1, (q5.cell (p := ⟨gy, _, none⟩) hgyn).trans zn2, (q5.cell (p := ⟨gy, _, none⟩) hgyn).trans zn3, (q5.cell (p := ⟨gy, _, none⟩) hgyn).trans zn4⟩) | (exact ⟨(q4.cell (p := ⟨gy, _, none⟩) hgyn).trans zn0, (q4.cell (p := ⟨gy, _, none⟩) hgyn).trans zn1, (q4.cell (p := ⟨gy, _, none⟩) hgyn).trans zn2, (q4.cell (p := ⟨gy, _, none⟩) hgyn).trans zn3, (q4.cell (p := ⟨gy, _, none⟩) hgyn).trans zn4⟩) | (exact ⟨((q4.alloc q4.size _).cell (p := ⟨gy, _, none⟩) hgyn).trans zn0, ((q4.alloc q4.size _).cell (p := ⟨gy, _, none⟩) hgyn).trans zn1, ((q4.alloc q4.size _).cell (p := ⟨gy, _, none⟩) hgyn).trans zn2, ((q4.alloc q4.size _).cell (p := ⟨gy, _, none⟩) hgyn).trans zn3, ((q4.alloc q4.size _).cell (p := ⟨gy, _, none⟩) hgyn).trans zn4⟩) | (exact ⟨((below_drewN (Below.refl wn.heap.size wn) _).cell (p := ⟨gy, _, none⟩) hgyn).trans zn0, ((below_drewN (Below.refl wn.heap.size wn) _).cell (p := ⟨gy, _, none⟩) hgyn).trans zn1, ((below_drewN (Below.refl wn.heap.size wn) _).cell (p := ⟨gy, _, none⟩) hgyn).trans zn2, ((below_drewN (Below.refl wn.heap.size wn) _).cell (p := ⟨gy, _, none⟩) hgyn).trans zn3, ((below_drewN (Below.refl wn.heap.size wn) _).cell (p := ⟨gy, _, none⟩) hgyn).trans zn4⟩) | (exact ⟨(((below_drewN (Below.refl wn.heap.size wn) _).alloc (by simp) _).cell (p := ⟨gy, _, none⟩) hgyn).trans zn0, (((below_drewN (Below.refl wn.heap.size wn) _).alloc (by simp) _).cell (p := ⟨gy, _, none⟩) hgyn).trans zn1, (((below_drewN (Below.refl wn.heap.size wn) _).alloc (by simp) _).cell (p := ⟨gy, _, none⟩) hgyn).trans zn2, (((below_drewN (Below.refl wn.heap.size wn) _).alloc (by simp) _).cell (p := ⟨gy, _, none⟩) hgyn).trans zn3, (((below_drewN (Below.refl wn.heap.size wn) _).alloc (by simp) _).cell (p := ⟨gy, _, none⟩) hgyn).trans zn4⟩) | (exact ⟨((((below_drewN (Below.refl wn.heap.size wn) _).alloc (by simp) _).alloc (by simp <;> omega) _).cell (p := ⟨gy, _, none⟩) hgyn).trans zn0, ((((below_drewN (Below.refl wn.heap.size wn) _).alloc (by simp) _).alloc (by simp <;> omega) _).cell (p := ⟨gy, _, none⟩) hgyn).trans zn1, ((((below_drewN (Below.refl wn.heap.size wn) _).alloc (by simp) _).alloc (by simp <;> omega) _).cell (p := ⟨gy, _, none⟩) hgyn).trans zn2, ((((below_drewN (Below.refl wn.heap.size wn) _).alloc (by simp) _).alloc (by simp <;> omega) _).cell (p := ⟨gy, _, none⟩) hgyn).trans zn3, ((((below_drewN (Below.refl wn.heap.size wn) _).alloc (by simp) _).alloc (by simp <;> omega) _).cell (p := ⟨gy, _, none⟩) hgyn).trans zn4⟩) | go_keep
                  clear hK K
                  try simp only [Act.put, List.setIfInBounds_toArray, List.set_cons_zero, List.set_cons_succ, List.getElem_toArray, List.getElem_cons_succ, List.getElem_cons_zero]
                  refine wpAnyH_ready (rs := [10]) (by kernel_rfl) (by simp) ?_
                  refine AllReadyH.cons rfl (fun K hK => ?_) AllReadyH.nil
                  (refine step_append_sl _ (by rfl) (.tmp 79) (.tmp 84) _ (by rfl) wn.heap.size 58 i0 _ 5 48 Try.underlying25 hi hz0 hz1 hz2 rfl (by omega) (.slice A4 q c4) q ((binRow O).take (q * 5)) (by rfl) ho4 (some _) 1 1 (binCells y) (by rfl) (by first | exact Rd.of_block (cs := #[.string y.code, .int .i64 y.amount, .int .i64 y.reserved, .int .i64 y.point, .int .i64 y.lot]) ((hg4.block _ (by simp <;> omega) (by simp [Value.ownBlock] <;> omega)).trans (heap_alloc2_new _ _ _)) rfl | exact Rd.of_block (cs := #[.string y.code, .int .i64 y.amount, .int .i64 y.reserved, .int .i64 y.point, .int .i64 y.lot]) ((hg4.block _ (by simp <;> omega) (by simp [Value.ownBlock] <;> omega)).trans (heap_alloc2_old _ _ _)) rfl) (binCells_one _) (by unfold maxLen; omega) (by omega) (by have := hg4.size; (try simp at this); simp <;> omega) ?_; intro A5 c5 w5 ho5 hg5 hor5; have T5 := Lib.hid (World.ownsRow.lt ho5); have q5 : Below wn.heap.size wn w5 := q4.grown hg5 q4.size (fun g hg => (T4.out g hg).1))
                  refine hK.out _ _ ?_ (fun hHeld => ?_)
                  · (try dsimp only); first | (go_split_ands; exact ⟨by assumption, by assumption, by assumption, by assumption, by assumption⟩) | (exact ⟨(q6.cell (p := ⟨gy, _, none⟩) hgyn).trans zn0, (q6.cell (p := ⟨gy, _, none⟩) hgyn).trans zn1, (q6.cell (p := ⟨gy, _, none⟩) hgyn).trans zn2, (q6.cell (p := ⟨gy, _, none⟩) hgyn).trans zn3, (q6.cell (p := ⟨gy, _, none⟩) hgyn).trans zn4⟩) | (exact ⟨(q5.cell (p := ⟨gy, _, none⟩) hgyn).trans zn0, (q5.cell (p := ⟨gy, _, none⟩) hgyn).trans zn1, (q5.cell (p := ⟨gy, _, none⟩) hgyn).trans zn2, (q5.cell (p := ⟨gy, _, none⟩) hgyn).trans zn3, (q5.cell (p := ⟨gy, _, none⟩) hgyn).trans zn4⟩) | (exact ⟨(q4.cell (p := ⟨gy, _, none⟩) hgyn).trans zn0, (q4.cell (p := ⟨gy, _, none⟩) hgyn).trans zn1, (q4.cell (p := ⟨gy, _, none⟩) hgyn).trans zn2, (q4.cell (p := ⟨gy, _, none⟩) hgyn).trans zn3, (q4.cell (p := ⟨gy, _, none⟩) hgyn).trans zn4⟩) | (exact ⟨((q4.alloc q4.size _).cell (p := ⟨gy, _, none⟩) hgyn).trans zn0, ((q4.alloc q4.size _).cell (p := ⟨gy, _, none⟩) hgyn).trans zn1, ((q4.alloc q4.size _).cell (p := ⟨gy, _, none⟩) hgyn).trans zn2, ((q4.alloc q4.size _).cell (p := ⟨gy, _, none⟩) hgyn).trans zn3, ((q4.alloc q4.size _).cell (p := ⟨gy, _, none⟩) hgyn).trans zn4⟩) | (exact ⟨((below_drewN (Below.refl wn.heap.size wn) _).cell (p := ⟨gy, _, none⟩) hgyn).trans zn0, ((below_drewN (Below.refl wn.heap.size wn) _).cell (p := ⟨gy, _, none⟩) hgyn).trans zn1, ((below_drewN (Below.refl wn.heap.size wn) _).cell (p := ⟨gy, _, none⟩) hgyn).trans zn2, ((below_drewN (Below.refl wn.heap.size wn) _).cell (p := ⟨gy, _, none⟩) hgyn).trans zn3, ((below_drewN (Below.refl wn.heap.size wn) _).cell (p := ⟨gy, _, none⟩) hgyn).trans zn4⟩) | (exact ⟨(((below_drewN (Below.refl wn.heap.size wn) _).alloc (by simp) _).cell (p := ⟨gy, _, none⟩) hgyn).trans zn0, (((below_drewN (Below.refl wn.heap.size wn) _).alloc (by simp) _).cell (p := ⟨gy, _, none⟩) hgyn).trans zn1, (((below_drewN (Below.refl wn.heap.size wn) _).alloc (by simp) _).cell (p := ⟨gy, _, none⟩) hgyn).trans zn2, (((below_drewN (Below.refl wn.heap.size wn) _).alloc (by simp) _).cell (p := ⟨gy, _, none⟩) hgyn).trans zn3, (((below_drewN (Below.refl wn.heap.size wn) _).alloc (by simp) _).cell (p := ⟨gy, _, none⟩) hgyn).trans zn4⟩) | (exact ⟨((((below_drewN (Below.refl wn.heap.size wn) _).alloc (by simp) _).alloc (by simp <;> omega) _).cell (p := ⟨gy, _, none⟩) hgyn).trans zn0, ((((below_drewN (Below.refl wn.heap.size wn) _).alloc (by simp) _).alloc (by simp <;> omega) _).cell (p := ⟨gy, _, none⟩) hgyn).trans zn1, ((((below_drewN (Below.refl wn.heap.size wn) _).alloc (by simp) _).alloc (by simp <;> omega) _).cell (p := ⟨gy, _, none⟩) hgyn).trans zn2, ((((below_drewN (Below.refl wn.heap.size wn) _).alloc (by simp) _).alloc (by simp <;> omega) _).cell (p := ⟨gy, _, none⟩) hgyn).trans zn3, ((((below_drewN (Below.refl wn.heap.size wn) _).alloc (by simp) _).alloc (by simp <;> omega) _).cell (p := ⟨gy, _, none⟩) hgyn).trans zn4⟩) | go_keep
                  clear hK K
                  try simp only [Act.put, List.setIfInBounds_toArray, List.set_cons_zero, List.set_cons_succ, List.getElem_toArray, List.getElem_cons_succ, List.getElem_cons_zero]
                  refine wpAnyH_ready (rs := [14]) (by kernel_rfl) (by simp) ?_
                  refine AllReadyH.cons rfl (fun K hK => ?_) AllReadyH.nil
                  (refine step_append_sl _ (by rfl) (.tmp 85) (.tmp 88) _ (by rfl) wn.heap.size 58 i0 _ 5 48 Try.underlying25 hi hz0 hz1 hz2 rfl (by omega) (.slice A5 (q + 1) c5) (q + 1) ((binRow O).take (q * 5) ++ binCells y) (by rfl) ho5 _ (O.length - q) (co - q) ((binRow O).drop (q * 5)) (by rfl) (by have z := (Rd.below (Rd.cut RD.out hq hco1) q5 (Nat.le_refl _)).more q5.size; first | exact z | (rw [cut_addr] at z; exact z)) (fun u hu => binRow_one O u (List.mem_of_mem_drop hu)) (by unfold maxLen; omega) (by omega) q5.size ?_; intro A6 c6 w6 ho6 hg6 hor6; have T6 := Lib.hid (World.ownsRow.lt ho6); have q6 : Below wn.heap.size wn w6 := q5.grown hg6 q5.size (fun g hg => (T5.out g hg).1))
                  refine hK.out _ _ ?_ (fun hHeld => ?_)
                  · (try dsimp only); first | (go_split_ands; exact ⟨by assumption, by assumption, by assumption, by assumption, by assumption⟩) | (exact ⟨(q6.cell (p := ⟨gy, _, none⟩) hgyn).trans zn0, (q6.cell (p := ⟨gy, _, none⟩) hgyn).trans zn1, (q6.cell (p := ⟨gy, _, none⟩) hgyn).trans zn2, (q6.cell (p := ⟨gy, _, none⟩) hgyn).trans zn3, (q6.cell (p := ⟨gy, _, none⟩) hgyn).trans zn4⟩) | (exact ⟨(q5.cell (p := ⟨gy, _, none⟩) hgyn).trans zn0, (q5.cell (p := ⟨gy, _, none⟩) hgyn).trans zn1, (q5.cell (p := ⟨gy, _, none⟩) hgyn).trans zn2, (q5.cell (p := ⟨gy, _, none⟩) hgyn).trans zn3, (q5.cell (p := ⟨gy, _, none⟩) hgyn).trans zn4⟩) | (exact ⟨(q4.cell (p := ⟨gy, _, none⟩) hgyn).trans zn0, (q4.cell (p := ⟨gy, _, none⟩) hgyn).trans zn1, (q4.cell (p := ⟨gy, _, none⟩) hgyn).trans zn2, (q4.cell (p := ⟨gy, _, none⟩) hgyn).trans zn3, (q4.cell (p := ⟨gy, _, none⟩) hgyn).trans zn4⟩) | (exact ⟨((q4.alloc q4.size _).cell (p := ⟨gy, _, none⟩) hgyn).trans zn0, ((q4.alloc q4.size _).cell (p := ⟨gy, _, none⟩) hgyn).trans zn1, ((q4.alloc q4.size _).cell (p := ⟨gy, _, none⟩) hgyn).trans zn2, ((q4.alloc q4.size _).cell (p := ⟨gy, _, none⟩) hgyn).trans zn3, ((q4.alloc q4.size _).cell (p := ⟨gy, _, none⟩) hgyn).trans zn4⟩) | (exact ⟨((below_drewN (Below.refl wn.heap.size wn) _).cell (p := ⟨gy, _, none⟩) hgyn).trans zn0, ((below_drewN (Below.refl wn.heap.size wn) _).cell (p := ⟨gy, _, none⟩) hgyn).trans zn1, ((below_drewN (Below.refl wn.heap.size wn) _).cell (p := ⟨gy, _, none⟩) hgyn).trans zn2, ((below_drewN (Below.refl wn.heap.size wn) _).cell (p := ⟨gy, _, none⟩) hgyn).trans zn3, ((below_drewN (Below.refl wn.heap.size wn) _).cell (p := ⟨gy, _, none⟩) hgyn).trans zn4⟩) | (exact ⟨(((below_drewN (Below.refl wn.heap.size wn) _).alloc (by simp) _).cell (p := ⟨gy, _, none⟩) hgyn).trans zn0, (((below_drewN (Below.refl wn.heap.size wn) _).alloc (by simp) _).cell (p := ⟨gy, _, none⟩) hgyn).trans zn1, (((below_drewN (Below.refl wn.heap.size wn) _).alloc (by simp) _).cell (p := ⟨gy, _, none⟩) hgyn).trans zn2, (((below_drewN (Below.refl wn.heap.size wn) _).alloc (by simp) _).cell (p := ⟨gy, _, none⟩) hgyn).trans zn3, (((below_drewN (Below.refl wn.heap.size wn) _).alloc (by simp) _).cell (p := ⟨gy, _, none⟩) hgyn).trans zn4⟩) | (exact ⟨((((below_drewN (Below.refl wn.heap.size wn) _).alloc (by simp) _).alloc (by simp <;> omega) _).cell (p := ⟨gy, _, none⟩) hgyn).trans zn0, ((((below_drewN (Below.refl wn.heap.size wn) _).alloc (by simp) _).alloc (by simp <;> omega) _).cell (p := ⟨gy, _, none⟩) hgyn).trans zn1, ((((below_drewN (Below.refl wn.heap.size wn) _).alloc (by simp) _).alloc (by simp <;> omega) _).cell (p := ⟨gy, _, none⟩) hgyn).trans zn2, ((((below_drewN (Below.refl wn.heap.size wn) _).alloc (by simp) _).alloc (by simp <;> omega) _).cell (p := ⟨gy, _, none⟩) hgyn).trans zn3, ((((below_drewN (Below.refl wn.heap.size wn) _).alloc (by simp) _).alloc (by simp <;> omega) _).cell (p := ⟨gy, _, none⟩) hgyn).trans zn4⟩) | go_keep
                  clear hK K
                  try simp only [Act.put, List.setIfInBounds_toArray, List.set_cons_zero, List.set_cons_succ, List.getElem_toArray, List.getElem_cons_succ, List.getElem_cons_zero]
                  refine wpAnyH_take (i := 15) (v := ?_) rfl (by kernel_rfl) (by kernel_rfl) (by kernel_rfl) (fun _ _ _ h => h) (Or.inl ⟨by rfl, ?_⟩) (by assumption) ?_
                  rotate_left
                  · (intro w hSw; (try dsimp only at hSw); go_simp) <;> with_reducible rfl
                  try simp only [Act.put, List.setIfInBounds_toArray, List.set_cons_zero, List.set_cons_succ, List.getElem_toArray, List.getElem_cons_succ, List.getElem_cons_zero]
                  refine wpAnyH_done (by kernel_rfl) ?_ _
                  have Hb9 := Lib.hid (Hbn.out.trans (q6.mono hszn))
                  have Ho9 : Hid (w6.ownsRow w.heap.size 58 5 (.slice A6 (q + 1 + (O.length - q)) c6) (q + 1 + (O.length - q)) (binRow (O.take q ++ y :: O.drop q))) := by rw [binRow_ins O y q hq]; exact Lib.hid (own_base ho6 hszn)
                  have HLL : Hid ((O.take q ++ y :: O.drop q).length = q + 1 + (O.length - q)) := Lib.hid (by simp [List.length_take]; omega)
                  clear ho4 hg4 hor4 ho5 hg5 hor5 ho6 hg6 hor6
                  go_wp2
                  go_roundw
                  case rel => exact ⟨O.take q ++ y :: O.drop q, A6, c6, k + 1, by rw [HLL.out], by go_num, by omega, by rw [HLL.out]; omega, HN.out, by rw [HLL.out]; exact Ho9.out, by first | exact Hb9.out | exact Hb9.out.drew⟩
                  case measure => simp [intOf]; omega
              · skip
                try dsimp only [List.getElem_toArray, List.getElem_cons_succ, List.getElem_cons_zero]
                go_simp
                refine hK.out _ _ ?_ (fun hHeld => ?_)
                · (try dsimp only); first | (go_split_ands; exact ⟨by assumption, by assumption, by assumption, by assumption, by assumption⟩) | (exact ⟨(q6.cell (p := ⟨gy, _, none⟩) hgyn).trans zn0, (q6.cell (p := ⟨gy, _, none⟩) hgyn).trans zn1, (q6.cell (p := ⟨gy, _, none⟩) hgyn).trans zn2, (q6.cell (p := ⟨gy, _, none⟩) hgyn).trans zn3, (q6.cell (p := ⟨gy, _, none⟩) hgyn).trans zn4⟩) | (exact ⟨(q5.cell (p := ⟨gy, _, none⟩) hgyn).trans zn0, (q5.cell (p := ⟨gy, _, none⟩) hgyn).trans zn1, (q5.cell (p := ⟨gy, _, none⟩) hgyn).trans zn2, (q5.cell (p := ⟨gy, _, none⟩) hgyn).trans zn3, (q5.cell (p := ⟨gy, _, none⟩) hgyn).trans zn4⟩) | (exact ⟨(q4.cell (p := ⟨gy, _, none⟩) hgyn).trans zn0, (q4.cell (p := ⟨gy, _, none⟩) hgyn).trans zn1, (q4.cell (p := ⟨gy, _, none⟩) hgyn).trans zn2, (q4.cell (p := ⟨gy, _, none⟩) hgyn).trans zn3, (q4.cell (p := ⟨gy, _, none⟩) hgyn).trans zn4⟩) | (exact ⟨((q4.alloc q4.size _).cell (p := ⟨gy, _, none⟩) hgyn).trans zn0, ((q4.alloc q4.size _).cell (p := ⟨gy, _, none⟩) hgyn).trans zn1, ((q4.alloc q4.size _).cell (p := ⟨gy, _, none⟩) hgyn).trans zn2, ((q4.alloc q4.size _).cell (p := ⟨gy, _, none⟩) hgyn).trans zn3, ((q4.alloc q4.size _).cell (p := ⟨gy, _, none⟩) hgyn).trans zn4⟩) | (exact ⟨((below_drewN (Below.refl wn.heap.size wn) _).cell (p := ⟨gy, _, none⟩) hgyn).trans zn0, ((below_drewN (Below.refl wn.heap.size wn) _).cell (p := ⟨gy, _, none⟩) hgyn).trans zn1, ((below_drewN (Below.refl wn.heap.size wn) _).cell (p := ⟨gy, _, none⟩) hgyn).trans zn2, ((below_drewN (Below.refl wn.heap.size wn) _).cell (p := ⟨gy, _, none⟩) hgyn).trans zn3, ((below_drewN (Below.refl wn.heap.size wn) _).cell (p := ⟨gy, _, none⟩) hgyn).trans zn4⟩) | (exact ⟨(((below_drewN (Below.refl wn.heap.size wn) _).alloc (by simp) _).cell (p := ⟨gy, _, none⟩) hgyn).trans zn0, (((below_drewN (Below.refl wn.heap.size wn) _).alloc (by simp) _).cell (p := ⟨gy, _, none⟩) hgyn).trans zn1, (((below_drewN (Below.refl wn.heap.size wn) _).alloc (by simp) _).cell (p := ⟨gy, _, none⟩) hgyn).trans zn2, (((below_drewN (Below.refl wn.heap.size wn) _).alloc (by simp) _).cell (p := ⟨gy, _, none⟩) hgyn).trans zn3, (((below_drewN (Below.refl wn.heap.size wn) _).alloc (by simp) _).cell (p := ⟨gy, _, none⟩) hgyn).trans zn4⟩) | (exact ⟨((((below_drewN (Below.refl wn.heap.size wn) _).alloc (by simp) _).alloc (by simp <;> omega) _).cell (p := ⟨gy, _, none⟩) hgyn).trans zn0, ((((below_drewN (Below.refl wn.heap.size wn) _).alloc (by simp) _).alloc (by simp <;> omega) _).cell (p := ⟨gy, _, none⟩) hgyn).trans zn1, ((((below_drewN (Below.refl wn.heap.size wn) _).alloc (by simp) _).alloc (by simp <;> omega) _).cell (p := ⟨gy, _, none⟩) hgyn).trans zn2, ((((below_drewN (Below.refl wn.heap.size wn) _).alloc (by simp) _).alloc (by simp <;> omega) _).cell (p := ⟨gy, _, none⟩) hgyn).trans zn3, ((((below_drewN (Below.refl wn.heap.size wn) _).alloc (by simp) _).alloc (by simp <;> omega) _).cell (p := ⟨gy, _, none⟩) hgyn).trans zn4⟩) | go_keep
                clear hK K
                try simp only [Act.put, List.setIfInBounds_toArray, List.set_cons_zero, List.set_cons_succ, List.getElem_toArray, List.getElem_cons_succ, List.getElem_cons_zero]
                refine wpAnyH_ready (rs := [0]) (by kernel_rfl) (by simp) ?_
                refine AllReadyH.cons rfl (fun K hK => ?_) AllReadyH.nil
                try dsimp only [List.getElem_toArray, List.getElem_cons_succ, List.getElem_cons_zero]
                go_simp
                refine hK.out _ _ ?_ (fun hHeld => ?_)
                · (try dsimp only); first | (go_split_ands; exact ⟨by assumption, by assumption, by assumption, by assumption, by assumption⟩) | (exact ⟨(q6.cell (p := ⟨gy, _, none⟩) hgyn).trans zn0, (q6.cell (p := ⟨gy, _, none⟩) hgyn).trans zn1, (q6.cell (p := ⟨gy, _, none⟩) hgyn).trans zn2, (q6.cell (p := ⟨gy, _, none⟩) hgyn).trans zn3, (q6.cell (p := ⟨gy, _, none⟩) hgyn).trans zn4⟩) | (exact ⟨(q5.cell (p := ⟨gy, _, none⟩) hgyn).trans zn0, (q5.cell (p := ⟨gy, _, none⟩) hgyn).trans zn1, (q5.cell (p := ⟨gy, _, none⟩) hgyn).trans zn2, (q5.cell (p := ⟨gy, _, none⟩) hgyn).trans zn3, (q5.cell (p := ⟨gy, _, none⟩) hgyn).trans zn4⟩) | (exact ⟨(q4.cell (p := ⟨gy, _, none⟩) hgyn).trans zn0, (q4.cell (p := ⟨gy, _, none⟩) hgyn).trans zn1, (q4.cell (p := ⟨gy, _, none⟩) hgyn).trans zn2, (q4.cell (p := ⟨gy, _, none⟩) hgyn).trans zn3, (q4.cell (p := ⟨gy, _, none⟩) hgyn).trans zn4⟩) | (exact ⟨((q4.alloc q4.size _).cell (p := ⟨gy, _, none⟩) hgyn).trans zn0, ((q4.alloc q4.size _).cell (p := ⟨gy, _, none⟩) hgyn).trans zn1, ((q4.alloc q4.size _).cell (p := ⟨gy, _, none⟩) hgyn).trans zn2, ((q4.alloc q4.size _).cell (p := ⟨gy, _, none⟩) hgyn).trans zn3, ((q4.alloc q4.size _).cell (p := ⟨gy, _, none⟩) hgyn).trans zn4⟩) | (exact ⟨((below_drewN (Below.refl wn.heap.size wn) _).cell (p := ⟨gy, _, none⟩) hgyn).trans zn0, ((below_drewN (Below.refl wn.heap.size wn) _).cell (p := ⟨gy, _, none⟩) hgyn).trans zn1, ((below_drewN (Below.refl wn.heap.size wn) _).cell (p := ⟨gy, _, none⟩) hgyn).trans zn2, ((below_drewN (Below.refl wn.heap.size wn) _).cell (p := ⟨gy, _, none⟩) hgyn).trans zn3, ((below_drewN (Below.refl wn.heap.size wn) _).cell (p := ⟨gy, _, none⟩) hgyn).trans zn4⟩) | (exact ⟨(((below_drewN (Below.refl wn.heap.size wn) _).alloc (by simp) _).cell (p := ⟨gy, _, none⟩) hgyn).trans zn0, (((below_drewN (Below.refl wn.heap.size wn) _).alloc (by simp) _).cell (p := ⟨gy, _, none⟩) hgyn).trans zn1, (((below_drewN (Below.refl wn.heap.size wn) _).alloc (by simp) _).cell (p := ⟨gy, _, none⟩) hgyn).trans zn2, (((below_drewN (Below.refl wn.heap.size wn) _).alloc (by simp) _).cell (p := ⟨gy, _, none⟩) hgyn).trans zn3, (((below_drewN (Below.refl wn.heap.size wn) _).alloc (by simp) _).cell (p := ⟨gy, _, none⟩) hgyn).trans zn4⟩) | (exact ⟨((((below_drewN (Below.refl wn.heap.size wn) _).alloc (by simp) _).alloc (by simp <;> omega) _).cell (p := ⟨gy, _, none⟩) hgyn).trans zn0, ((((below_drewN (Below.refl wn.heap.size wn) _).alloc (by simp) _).alloc (by simp <;> omega) _).cell (p := ⟨gy, _, none⟩) hgyn).trans zn1, ((((below_drewN (Below.refl wn.heap.size wn) _).alloc (by simp) _).alloc (by simp <;> omega) _).cell (p := ⟨gy, _, none⟩) hgyn).trans zn2, ((((below_drewN (Below.refl wn.heap.size wn) _).alloc (by simp) _).alloc (by simp <;> omega) _).cell (p := ⟨gy, _, none⟩) hgyn).trans zn3, ((((below_drewN (Below.refl wn.heap.size wn) _).alloc (by simp) _).alloc (by simp <;> omega) _).cell (p := ⟨gy, _, none⟩) hgyn).trans zn4⟩) | go_keep
                clear hK K
                try simp only [Act.put, List.setIfInBounds_toArray, List.set_cons_zero, List.set_cons_succ, List.getElem_toArray, List.getElem_cons_succ, List.getElem_cons_zero]
                refine wpAnyH_ready (rs := [4]) (by kernel_rfl) (by simp) ?_
                refine AllReadyH.cons rfl (fun K hK => ?_) AllReadyH.nil
                (refine step_append_sl _ (by rfl) (.tmp 75) (.tmp 78) _ (by rfl) wn.heap.size 58 i0 _ 5 48 Try.underlying25 hi hz0 hz1 hz2 rfl (by omega) (.slice (some ⟨_, 0, none⟩) 0 0) 0 [] (by rfl) (by first | exact own_empty' _ _ _ (by simp <;> omega) (by simp) | exact (own_empty' _ _ _ (by simp <;> omega) (by simp)).alloc _) _ q co ((binRow O).take (q * 5)) (by rfl) (by first | exact Rd.alloc' (Rd.take (Rd.drewN (Rd.of_own Hon.out) _) hq) _ | exact Rd.alloc' (Rd.alloc' (Rd.take (Rd.drewN (Rd.of_own Hon.out) _) hq) _) _) (fun u hu => binRow_one O u (List.mem_of_mem_take hu)) (by unfold maxLen; omega) (by omega) (by simp <;> omega) ?_; intro A4 c4 w4 ho4 hg4 hor4; simp only [Nat.zero_add, List.nil_append] at ho4 ⊢; have T4 := Lib.hid (World.ownsRow.lt ho4); have q4 : Below wn.heap.size wn w4 := (by first | exact Below.grown ((below_drewN (Below.refl _ _) _).alloc (by simp) _) hg4 (by simp <;> omega) (fun g hg => by simp [Value.ownBlock] at hg; omega) | exact Below.grown (((below_drewN (Below.refl _ _) _).alloc (by simp) _).alloc (by simp <;> omega) _) hg4 (by simp <;> omega) (fun g hg => by simp [Value.ownBlock] at hg; omega)))
                refine hK.out _ _ ?_ (fun hHeld => ?_)
                · (try dsimp only); first | (go_split_ands; exact ⟨by assumption, by assumption, by assumption, by assumption, by assumption⟩) | (exact ⟨(q6.cell (p := ⟨gy, _, none⟩) hgyn).trans zn0, (q6.cell (p := ⟨gy, _, none⟩) hgyn).trans zn1, (q6.cell (p := ⟨gy, _, none⟩) hgyn).trans zn2, (q6.cell (p := ⟨gy, _, none⟩) hgyn).trans zn3, (q6.cell (p := ⟨gy, _, none⟩) hgyn).trans zn4⟩) | (exact ⟨(q5.cell (p := ⟨gy, _, none⟩) hgyn).trans zn0, (q5.cell (p := ⟨gy, _, none⟩) hgyn).trans zn1, (q5.cell (p := ⟨gy, _, none⟩) hgyn).trans zn2, (q5.cell (p := ⟨gy, _, none⟩) hgyn).trans zn3, (q5.cell (p := ⟨gy, _, none⟩) hgyn).trans zn4⟩) | (exact ⟨(q4.cell (p := ⟨gy, _, none⟩) hgyn).trans zn0, (q4.cell (p := ⟨gy, _, none⟩) hgyn).trans zn1, (q4.cell (p := ⟨gy, _, none⟩) hgyn).trans zn2, (q4.cell (p := ⟨gy, _, none⟩) hgyn).trans zn3, (q4.cell (p := ⟨gy, _, none⟩) hgyn).trans zn4⟩) | (exact ⟨((q4.alloc q4.size _).cell (p := ⟨gy, _, none⟩) hgyn).trans zn0, ((q4.alloc q4.size _).cell (p := ⟨gy, _, none⟩) hgyn).trans zn1, ((q4.alloc q4.size _).cell (p := ⟨gy, _, none⟩) hgyn).trans zn2, ((q4.alloc q4.size _).cell (p := ⟨gy, _, none⟩) hgyn).trans zn3, ((q4.alloc q4.size _).cell (p := ⟨gy, _, none⟩) hgyn).trans zn4⟩) | (exact ⟨((below_drewN (Below.refl wn.heap.size wn) _).cell (p := ⟨gy, _, none⟩) hgyn).trans zn0, ((below_drewN (Below.refl wn.heap.size wn) _).cell (p := ⟨gy, _, none⟩) hgyn).trans zn1, ((below_drewN (Below.refl wn.heap.size wn) _).cell (p := ⟨gy, _, none⟩) hgyn).trans zn2, ((below_drewN (Below.refl wn.heap.size wn) _).cell (p := ⟨gy, _, none⟩) hgyn).trans zn3, ((below_drewN (Below.refl wn.heap.size wn) _).cell (p := ⟨gy, _, none⟩) hgyn).trans zn4⟩) | (exact ⟨(((below_drewN (Below.refl wn.heap.size wn) _).alloc (by simp) _).cell (p := ⟨gy, _, none⟩) hgyn).trans zn0, (((below_drewN (Below.refl wn.heap.size wn) _).alloc (by simp) _).cell (p := ⟨gy, _, none⟩) hgyn).trans zn1, (((below_drewN (Below.refl wn.heap.size wn) _).alloc (by simp) _).cell (p := ⟨gy, _, none⟩) hgyn).trans zn2, (((below_drewN (Below.refl wn.heap.size wn) _).alloc (by simp) _).cell (p := ⟨gy, _, none⟩) hgyn).trans zn3, (((below_drewN (Below.refl wn.heap.size wn) _).alloc (by simp) _).cell (p := ⟨gy, _, none⟩) hgyn).trans zn4⟩) | (exact ⟨((((below_drewN (Below.refl wn.heap.size wn) _).alloc (by simp) _).alloc (by simp <;> omega) _).cell (p := ⟨gy, _, none⟩) hgyn).trans zn0, ((((below_drewN (Below.refl wn.heap.size wn) _).alloc (by simp) _).alloc (by simp <;> omega) _).cell (p := ⟨gy, _, none⟩) hgyn).trans zn1, ((((below_drewN (Below.refl wn.heap.size wn) _).alloc (by simp) _).alloc (by simp <;> omega) _).cell (p := ⟨gy, _, none⟩) hgyn).trans zn2, ((((below_drewN (Below.refl wn.heap.size wn) _).alloc (by simp) _).alloc (by simp <;> omega) _).cell (p := ⟨gy, _, none⟩) hgyn).trans zn3, ((((below_drewN (Below.refl wn.heap.size wn) _).alloc (by simp) _).alloc (by simp <;> omega) _).cell (p := ⟨gy, _, none⟩) hgyn).trans zn4⟩) | go_keep
                clear hK K
                try simp only [Act.put, List.setIfInBounds_toArray, List.set_cons_zero, List.set_cons_succ, List.getElem_toArray, List.getElem_cons_succ, List.getElem_cons_zero]
                refine wpAnyH_ready (rs := [10]) (by kernel_rfl) (by simp) ?_
                refine AllReadyH.cons rfl (fun K hK => ?_) AllReadyH.nil
                (refine step_append_sl _ (by rfl) (.tmp 79) (.tmp 84) _ (by rfl) wn.heap.size 58 i0 _ 5 48 Try.underlying25 hi hz0 hz1 hz2 rfl (by omega) (.slice A4 q c4) q ((binRow O).take (q * 5)) (by rfl) ho4 (some _) 1 1 (binCells y) (by rfl) (by first | exact Rd.of_block (cs := #[.string y.code, .int .i64 y.amount, .int .i64 y.reserved, .int .i64 y.point, .int .i64 y.lot]) ((hg4.block _ (by simp <;> omega) (by simp [Value.ownBlock] <;> omega)).trans (heap_alloc2_new _ _ _)) rfl | exact Rd.of_block (cs := #[.string y.code, .int .i64 y.amount, .int .i64 y.reserved, .int .i64 y.point, .int .i64 y.lot]) ((hg4.block _ (by simp <;> omega) (by simp [Value.ownBlock] <;> omega)).trans (heap_alloc2_old _ _ _)) rfl) (binCells_one _) (by unfold maxLen; omega) (by omega) (by have := hg4.size; (try simp at this); simp <;> omega) ?_; intro A5 c5 w5 ho5 hg5 hor5; have T5 := Lib.hid (World.ownsRow.lt ho5); have q5 : Below wn.heap.size wn w5 := q4.grown hg5 q4.size (fun g hg => (T4.out g hg).1))
                refine hK.out _ _ ?_ (fun hHeld => ?_)
                · (try dsimp only); first | (go_split_ands; exact ⟨by assumption, by assumption, by assumption, by assumption, by assumption⟩) | (exact ⟨(q6.cell (p := ⟨gy, _, none⟩) hgyn).trans zn0, (q6.cell (p := ⟨gy, _, none⟩) hgyn).trans zn1, (q6.cell (p := ⟨gy, _, none⟩) hgyn).trans zn2, (q6.cell (p := ⟨gy, _, none⟩) hgyn).trans zn3, (q6.cell (p := ⟨gy, _, none⟩) hgyn).trans zn4⟩) | (exact ⟨(q5.cell (p := ⟨gy, _, none⟩) hgyn).trans zn0, (q5.cell (p := ⟨gy, _, none⟩) hgyn).trans zn1, (q5.cell (p := ⟨gy, _, none⟩) hgyn).trans zn2, (q5.cell (p := ⟨gy, _, none⟩) hgyn).trans zn3, (q5.cell (p := ⟨gy, _, none⟩) hgyn).trans zn4⟩) | (exact ⟨(q4.cell (p := ⟨gy, _, none⟩) hgyn).trans zn0, (q4.cell (p := ⟨gy, _, none⟩) hgyn).trans zn1, (q4.cell (p := ⟨gy, _, none⟩) hgyn).trans zn2, (q4.cell (p := ⟨gy, _, none⟩) hgyn).trans zn3, (q4.cell (p := ⟨gy, _, none⟩) hgyn).trans zn4⟩) | (exact ⟨((q4.alloc q4.size _).cell (p := ⟨gy, _, none⟩) hgyn).trans zn0, ((q4.alloc q4.size _).cell (p := ⟨gy, _, none⟩) hgyn).trans zn1, ((q4.alloc q4.size _).cell (p := ⟨gy, _, none⟩) hgyn).trans zn2, ((q4.alloc q4.size _).cell (p := ⟨gy, _, none⟩) hgyn).trans zn3, ((q4.alloc q4.size _).cell (p := ⟨gy, _, none⟩) hgyn).trans zn4⟩) | (exact ⟨((below_drewN (Below.refl wn.heap.size wn) _).cell (p := ⟨gy, _, none⟩) hgyn).trans zn0, ((below_drewN (Below.refl wn.heap.size wn) _).cell (p := ⟨gy, _, none⟩) hgyn).trans zn1, ((below_drewN (Below.refl wn.heap.size wn) _).cell (p := ⟨gy, _, none⟩) hgyn).trans zn2, ((below_drewN (Below.refl wn.heap.size wn) _).cell (p := ⟨gy, _, none⟩) hgyn).trans zn3, ((below_drewN (Below.refl wn.heap.size wn) _).cell (p := ⟨gy, _, none⟩) hgyn).trans zn4⟩) | (exact ⟨(((below_drewN (Below.refl wn.heap.size wn) _).alloc (by simp) _).cell (p := ⟨gy, _, none⟩) hgyn).trans zn0, (((below_drewN (Below.refl wn.heap.size wn) _).alloc (by simp) _).cell (p := ⟨gy, _, none⟩) hgyn).trans zn1, (((below_drewN (Below.refl wn.heap.size wn) _).alloc (by simp) _).cell (p := ⟨gy, _, none⟩) hgyn).trans zn2, (((below_drewN (Below.refl wn.heap.size wn) _).alloc (by simp) _).cell (p := ⟨gy, _, none⟩) hgyn).trans zn3, (((below_drewN (Below.refl wn.heap.size wn) _).alloc (by simp) _).cell (p := ⟨gy, _, none⟩) hgyn).trans zn4⟩) | (exact ⟨((((below_drewN (Below.refl wn.heap.size wn) _).alloc (by simp) _).alloc (by simp <;> omega) _).cell (p := ⟨gy, _, none⟩) hgyn).trans zn0, ((((below_drewN (Below.refl wn.heap.size wn) _).alloc (by simp) _).alloc (by simp <;> omega) _).cell (p := ⟨gy, _, none⟩) hgyn).trans zn1, ((((below_drewN (Below.refl wn.heap.size wn) _).alloc (by simp) _).alloc (by simp <;> omega) _).cell (p := ⟨gy, _, none⟩) hgyn).trans zn2, ((((below_drewN (Below.refl wn.heap.size wn) _).alloc (by simp) _).alloc (by simp <;> omega) _).cell (p := ⟨gy, _, none⟩) hgyn).trans zn3, ((((below_drewN (Below.refl wn.heap.size wn) _).alloc (by simp) _).alloc (by simp <;> omega) _).cell (p := ⟨gy, _, none⟩) hgyn).trans zn4⟩) | go_keep
                clear hK K
                try simp only [Act.put, List.setIfInBounds_toArray, List.set_cons_zero, List.set_cons_succ, List.getElem_toArray, List.getElem_cons_succ, List.getElem_cons_zero]
                refine wpAnyH_ready (rs := [14]) (by kernel_rfl) (by simp) ?_
                refine AllReadyH.cons rfl (fun K hK => ?_) AllReadyH.nil
                (refine step_append_sl _ (by rfl) (.tmp 85) (.tmp 88) _ (by rfl) wn.heap.size 58 i0 _ 5 48 Try.underlying25 hi hz0 hz1 hz2 rfl (by omega) (.slice A5 (q + 1) c5) (q + 1) ((binRow O).take (q * 5) ++ binCells y) (by rfl) ho5 _ (O.length - q) (co - q) ((binRow O).drop (q * 5)) (by rfl) (by have z := (Rd.below (Rd.cut RD.out hq hco1) q5 (Nat.le_refl _)).more q5.size; first | exact z | (rw [cut_addr] at z; exact z)) (fun u hu => binRow_one O u (List.mem_of_mem_drop hu)) (by unfold maxLen; omega) (by omega) q5.size ?_; intro A6 c6 w6 ho6 hg6 hor6; have T6 := Lib.hid (World.ownsRow.lt ho6); have q6 : Below wn.heap.size wn w6 := q5.grown hg6 q5.size (fun g hg => (T5.out g hg).1))
                refine hK.out _ _ ?_ (fun hHeld => ?_)
                · (try dsimp only); first | (go_split_ands; exact ⟨by assumption, by assumption, by assumption, by assumption, by assumption⟩) | (exact ⟨(q6.cell (p := ⟨gy, _, none⟩) hgyn).trans zn0, (q6.cell (p := ⟨gy, _, none⟩) hgyn).trans zn1, (q6.cell (p := ⟨gy, _, none⟩) hgyn).trans zn2, (q6.cell (p := ⟨gy, _, none⟩) hgyn).trans zn3, (q6.cell (p := ⟨gy, _, none⟩) hgyn).trans zn4⟩) | (exact ⟨(q5.cell (p := ⟨gy, _, none⟩) hgyn).trans zn0, (q5.cell (p := ⟨gy, _, none⟩) hgyn).trans zn1, (q5.cell (p := ⟨gy, _, none⟩) hgyn).trans zn2, (q5.cell (p := ⟨gy, _, none⟩) hgyn).trans zn3, (q5.cell (p := ⟨gy, _, none⟩) hgyn).trans zn4⟩) | (exact ⟨(q4.cell (p := ⟨gy, _, none⟩) hgyn).trans zn0, (q4.cell (p := ⟨gy, _, none⟩) hgyn).trans zn1, (q4.cell (p := ⟨gy, _, none⟩) hgyn).trans zn2, (q4.cell (p := ⟨gy, _, none⟩) hgyn).trans zn3, (q4.cell (p := ⟨gy, _, none⟩) hgyn).trans zn4⟩) | (exact ⟨((q4.alloc q4.size _).cell (p := ⟨gy, _, none⟩) hgyn).trans zn0, ((q4.alloc q4.size _).cell (p := ⟨gy, _, none⟩) hgyn).trans zn1, ((q4.alloc q4.size _).cell (p := ⟨gy, _, none⟩) hgyn).trans zn2, ((q4.alloc q4.size _).cell (p := ⟨gy, _, none⟩) hgyn).trans zn3, ((q4.alloc q4.size _).cell (p := ⟨gy, _, none⟩) hgyn).trans zn4⟩) | (exact ⟨((below_drewN (Below.refl wn.heap.size wn) _).cell (p := ⟨gy, _, none⟩) hgyn).trans zn0, ((below_drewN (Below.refl wn.heap.size wn) _).cell (p := ⟨gy, _, none⟩) hgyn).trans zn1, ((below_drewN (Below.refl wn.heap.size wn) _).cell (p := ⟨gy, _, none⟩) hgyn).trans zn2, ((below_drewN (Below.refl wn.heap.size wn) _).cell (p := ⟨gy, _, none⟩) hgyn).trans zn3, ((below_drewN (Below.refl wn.heap.size wn) _).cell (p := ⟨gy, _, none⟩) hgyn).trans zn4⟩) | (exact ⟨(((below_drewN (Below.refl wn.heap.size wn) _).alloc (by simp) _).cell (p := ⟨gy, _, none⟩) hgyn).trans zn0, (((below_drewN (Below.refl wn.heap.size wn) _).alloc (by simp) _).cell (p := ⟨gy, _, none⟩) hgyn).trans zn1, (((below_drewN (Below.refl wn.heap.size wn) _).alloc (by simp) _).cell (p := ⟨gy, _, none⟩) hgyn).trans zn2, (((below_drewN (Below.refl wn.heap.size wn) _).alloc (by simp) _).cell (p := ⟨gy, _, none⟩) hgyn).trans zn3, (((below_drewN (Below.refl wn.heap.size wn) _).alloc (by simp) _).cell (p := ⟨gy, _, none⟩) hgyn).trans zn4⟩) | (exact ⟨((((below_drewN (Below.refl wn.heap.size wn) _).alloc (by simp) _).alloc (by simp <;> omega) _).cell (p := ⟨gy, _, none⟩) hgyn).trans zn0, ((((below_drewN (Below.refl wn.heap.size wn) _).alloc (by simp) _).alloc (by simp <;> omega) _).cell (p := ⟨gy, _, none⟩) hgyn).trans zn1, ((((below_drewN (Below.refl wn.heap.size wn) _).alloc (by simp) _).alloc (by simp <;> omega) _).cell (p := ⟨gy, _, none⟩) hgyn).trans zn2, ((((below_drewN (Below.refl wn.heap.size wn) _).alloc (by simp) _).alloc (by simp <;> omega) _).cell (p := ⟨gy, _, none⟩) hgyn).trans zn3, ((((below_drewN (Below.refl wn.heap.size wn) _).alloc (by simp) _).alloc (by simp <;> omega) _).cell (p := ⟨gy, _, none⟩) hgyn).trans zn4⟩) | go_keep
                clear hK K
                try simp only [Act.put, List.setIfInBounds_toArray, List.set_cons_zero, List.set_cons_succ, List.getElem_toArray, List.getElem_cons_succ, List.getElem_cons_zero]
                refine wpAnyH_take (i := 15) (v := ?_) rfl (by kernel_rfl) (by kernel_rfl) (by kernel_rfl) (fun _ _ _ h => h) (Or.inl ⟨by rfl, ?_⟩) (by assumption) ?_
                rotate_left
                · (intro w hSw; (try dsimp only at hSw); go_simp) <;> with_reducible rfl
                try simp only [Act.put, List.setIfInBounds_toArray, List.set_cons_zero, List.set_cons_succ, List.getElem_toArray, List.getElem_cons_succ, List.getElem_cons_zero]
                refine wpAnyH_done (by kernel_rfl) ?_ _
                have Hb9 := Lib.hid (Hbn.out.trans (q6.mono hszn))
                have Ho9 : Hid (w6.ownsRow w.heap.size 58 5 (.slice A6 (q + 1 + (O.length - q)) c6) (q + 1 + (O.length - q)) (binRow (O.take q ++ y :: O.drop q))) := by rw [binRow_ins O y q hq]; exact Lib.hid (own_base ho6 hszn)
                have HLL : Hid ((O.take q ++ y :: O.drop q).length = q + 1 + (O.length - q)) := Lib.hid (by simp [List.length_take]; omega)
                clear ho4 hg4 hor4 ho5 hg5 hor5 ho6 hg6 hor6
                go_wp2
                go_roundw
                case rel => exact ⟨O.take q ++ y :: O.drop q, A6, c6, k + 1, by rw [HLL.out], by go_num, by omega, by rw [HLL.out]; omega, HN.out, by rw [HLL.out]; exact Ho9.out, by first | exact Hb9.out | exact Hb9.out.drew⟩
                case measure => simp [intOf]; omega
        · skip
          have hk2 : k = B.length := by omega
          have hO : Hid (O = mergeGo A B) := Lib.hid (by have := HO.out; rwa [hk2, List.take_length] at this)
          clear hk2
          go_wp2_with fail
          refine (specIsStock_any wr O _ (Sl.of_own Ho.out) (by rw [hO.out]; exact merge_fit Hf.out Hg.out) (by omega)).mono ?_
          rintro e w8 ⟨rfl, hb8⟩
          cases h5 : isStock O
          · skip
            have H : mergeF A B = ([], 3) := by have h6 := h5; rw [hO.out] at h6; simp [mergeF, h1, h2, h6]
            go_wp2
            go_ret2
            exact RetSC.err H rfl (Hbw.out.trans (hb8.mono hszr))
          · skip
            have H : mergeF A B = (O, 0) := by have h6 := h5; rw [hO.out] at h6 ⊢; simp [mergeF, h1, h2, h6]
            go_wp2
            go_ret2
            exact RetSC.ok H (own_below Ho.out hb8) rfl rfl (Nat.le_refl _) (Hbw.out.trans (hb8.mono hszr))

end Go.Proofs.Ytngphnfbfednnaa
