/- The walks of OrderList. Printed by gen_stockf.py. -/
import Derived.Test.YtngphnfbfednnaaOrdM
import Derived.Test.YtngphnfbfednnaaApp
namespace Go.Proofs.Ytngphnfbfednnaa
open Go.RowKit

theorem RetSSC.ok {α β : Type} {base b1 b2 e size e2 size2 : Nat} {row : List α → List Value} {row2 : List β → List Value} {r : List α × List β × Int} {w w' : World} {c : Int} {l : List α} {m : List β} {v u : Value} {n1 n2 : Nat} {xs ys : List Value} (h : r = (l, m, c))
    (ho : w'.ownsRow b1 e size v n1 xs) (hn1 : n1 = l.length) (hx : xs = row l) (ho2 : w'.ownsRow b2 e2 size2 u n2 ys) (hn2 : n2 = m.length) (hy : ys = row2 m) (hB1 : base ≤ b1) (hB2 : base ≤ b2) (hne : v.ownBlock = none ∨ v.ownBlock ≠ u.ownBlock) (hb : Below w.heap.size w w') :
    RetSSC base e size row e2 size2 row2 r w (.returned (.tuple #[v, u, .int .i64 c])) w' := by
  subst h; subst hn1; subst hn2; subst hx; subst hy
  exact ⟨v, u, rfl, own_base ho hB1, own_base ho2 hB2, hne, hb⟩

set_option maxHeartbeats 4000000 in
theorem implOrderList_any (w : World) (L : List Bin) (v : Value) (hv : Sl w 5 v L.length (binRow L)) (hf : binFit L) (hn : L.length ≤ 4194304) :
    Calls Try.prog 46 #[v] w (RetSSC w.heap.size 9 1 strsRow 2 1 intsRow (orderList L) w) := by
  have Hv := Lib.hid hv
  have Hf := Lib.hid hf
  clear hf
  cases h1 : isStock L
  · have H := Lib.hid (show orderList L = ([], [], 1) by simp [orderList, h1])
    clear hv
    go_enter Try.func46, Try.ntmps46
    go_wp2_with fail
    refine (implIsStock_any w L v Hv.out Hf.out hn).mono ?_
    rintro e w2 ⟨rfl, hb2⟩
    rw [h1]
    go_wp2
    go_ret3
    exact RetSSC.ok H.out (World.ownsRow_nil _ _ _ _) rfl rfl (World.ownsRow_nil _ _ _ _) rfl rfl (Nat.le_refl _) (Nat.le_refl _) (.inl rfl) hb2
  · have hL20 := isStock_le h1
    have H := Lib.hid (show orderList L = (ordCodes L, ordPieces L, 0) by simp [orderList, h1])
    obtain ⟨i0, hi, hz0, hz1, hz2⟩ := info_parts Try.info_strs
    obtain ⟨j0, hj, hy0, hy1, hy2⟩ := info_parts Try.info_ints
    obtain ⟨A, c, rfl, hl, hc, hr⟩ := hv
    have Hr := Lib.hid hr
    clear hr hl hc
    go_enter Try.func46, Try.ntmps46
    go_wp2_with fail
    refine (implIsStock_any w L _ Hv.out Hf.out hn).mono ?_
    rintro e w2 ⟨rfl, hb2⟩
    rw [h1]
    have Hr2 := Lib.hid (Hr.out.below' hb2)
    have hs2 := hb2.size
    go_wp2
    go_loopw [5, 6, 15] (fun s t i wr => ∃ (k : Nat) (ns : List ByteArray) (ps : List Int) (Ao : Option Addr) (co : Nat) (Ap : Option Addr) (cp : Nat), k ≤ L.length ∧ ns = ordCodes (L.take k) ∧ ps = ordPieces (L.take k) ∧ ns.length ≤ k ∧ ps.length ≤ k ∧ i = .int .i64 k ∧ s = .slice Ao ns.length co ∧ t = .slice Ap ps.length cp ∧
        wr.ownsRow w2.heap.size 9 1 (.slice Ao ns.length co) ns.length (strsRow ns) ∧ wr.ownsRow w2.heap.size 2 1 (.slice Ap ps.length cp) ps.length (intsRow ps) ∧ Below w2.heap.size w2 wr ∧ ((Value.slice Ao ns.length co).ownBlock = none ∨ (Value.slice Ao ns.length co).ownBlock ≠ (Value.slice Ap ps.length cp).ownBlock)) (fun _ _ i _ => L.length - (intOf i).toNat)
    case atStart => exact ⟨0, [], [], none, 0, none, 0, Nat.zero_le _, rfl, rfl, Nat.le_refl _, Nat.le_refl _, rfl, rfl, rfl, World.ownsRow_nil _ _ _ _, World.ownsRow_nil _ _ _ _, Below.refl _ _, .inl rfl⟩
    case round =>
      obtain ⟨k, ns, ps, Ao, co, Ap, cp, hk, hns, hps, hnl, hpl, rfl, rfl, rfl, ho, hp, hb, hne⟩ := hrel
      have Hns := Lib.hid hns
      have Hps := Lib.hid hps
      have Ho := Lib.hid ho
      have Hp := Lib.hid hp
      have Hne := Lib.hid hne
      have hsz := hb.size
      clear hns hps ho hp hne
      by_cases hlt : k < L.length
      · obtain ⟨g, o, rfl, hg, c0, c1, c2, c3, c4⟩ := (Hr2.out.below hb (Nat.le_refl _)).bin hlt
        obtain ⟨_, ⟨a1, a2⟩, ⟨r1, r2⟩, ⟨p1, p2⟩, ⟨l1, l2⟩⟩ := stock_bin h1 hlt
        have r3 : (binAt L k).reserved ≤ 100000 := by omega
        have i1 : (0 : Int) ≤ (k : Int) := Int.natCast_nonneg _
        have i2 : (k : Int) < (L.length : Int) := by omega
        by_cases hw : 0 < lacks (binAt L k)
        · have E1 := Lib.hid (ord_yes L hlt hw).1
          have E2 := Lib.hid (ord_yes L hlt hw).2
          have hw' : 0 < (binAt L k).point - ((binAt L k).amount - (binAt L k).reserved) := hw
          have hcb := ceil_bd hw' (show 0 < (binAt L k).lot by omega)
          obtain ⟨q1, q2, q3, q4⟩ := hcb
          have Hw := Lib.hid hw
          clear hw
          go_wp2_with (at_builtin; obtain ⟨wb, hwb⟩ : ∃ wb, wb = wr.alloc (.cells #[.string (binAt L k).code, .int .i64 (binAt L k).amount, .int .i64 (binAt L k).reserved, .int .i64 (binAt L k).point, .int .i64 (binAt L k).lot] 58) := ⟨_, rfl⟩; have bb : Below w2.heap.size w2 wb := (by rw [hwb]; exact hb.alloc hsz _); have zb : wb.heap.size = wr.heap.size + 1 := (by rw [hwb, World.size_alloc]); have e0 : wb.cell? ⟨wr.heap.size, 0, none⟩ = some (.string (binAt L k).code) := (by rw [hwb]; go_simp); have e1 : wb.cell? ⟨wr.heap.size, 1, none⟩ = some (.int .i64 (binAt L k).amount) := (by rw [hwb]; go_simp); have e2 : wb.cell? ⟨wr.heap.size, 2, none⟩ = some (.int .i64 (binAt L k).reserved) := (by rw [hwb]; go_simp); have e3 : wb.cell? ⟨wr.heap.size, 3, none⟩ = some (.int .i64 (binAt L k).point) := (by rw [hwb]; go_simp); have e4 : wb.cell? ⟨wr.heap.size, 4, none⟩ = some (.int .i64 (binAt L k).lot) := (by rw [hwb]; go_simp); have Ob := Lib.hid (show wb.ownsRow w2.heap.size 9 1 (.slice Ao ns.length co) ns.length (strsRow ns) by rw [hwb]; exact Ho.out.alloc _); have Pb := Lib.hid (show wb.ownsRow w2.heap.size 2 1 (.slice Ap ps.length cp) ps.length (intsRow ps) by rw [hwb]; exact Hp.out.alloc _); have hzb := bb.size; clear c0 c1 c2 c3 c4; rw [← hwb]; clear hwb; refine wpList_append_sl _ rfl (.tmp 29) (.tmp 32) _ rfl w2.heap.size 9 i0 _ 1 16 Try.underlying38 hi hz0 hz1 hz2 rfl (by omega) _ ns.length (strsRow ns) rfl (Ob.out.alloc _) (some ⟨wr.heap.size + 1, 0, none⟩) 1 1 [.string (binAt L k).code] rfl (Rd.of_block (cs := #[.string (binAt L k).code]) (by rw [← zb] <;> exact heap_alloc_new _ _) rfl) (by intro x hx; simp at hx; subst hx; rfl) (by unfold maxLen; omega) (by omega) (by simp <;> omega) ?_; intro A8 c8 w8 ho8 hg8 hor8)
          have b8 : Below w2.heap.size w2 w8 := (bb.alloc hzb _).grown hg8 (by simp; omega) (fun q hq => (World.ownsRow.lt Ob.out q hq).1)
          have T8 := Lib.hid (World.ownsRow.lt Ob.out)
          have Tp := Lib.hid (World.ownsRow.lt Pb.out)
          have O8 := Lib.hid ho8
          have P8 := Lib.hid (World.ownsRow.kept (Pb.out.alloc (.cells #[.string (binAt L k).code] 9)) hg8 (ne_symm Hne.out))
          have N8 := Lib.hid (ne_symm (apart_append (ne_symm Hne.out) (w := wb.alloc (.cells #[.string (binAt L k).code] 9)) (fun q hq => ⟨(Tp.out q hq).1, by have := (Tp.out q hq).2; simp; omega⟩) hor8))
          have Z8 := hg8.size
          have hbx : some wr.heap.size ≠ (Value.slice Ao ns.length co).ownBlock := fun h => by have := (World.ownsRow.lt Ho.out _ h.symm).2; omega
          have f4 : w8.cell? ⟨wr.heap.size, 4, none⟩ = some (.int .i64 (binAt L k).lot) := (World.cell?_of_block (hg8.block wr.heap.size (by simp; omega) hbx)).trans ((World.cell?_alloc_lt _ _ _ (by show wr.heap.size < wb.heap.size; omega)).trans e4)
          clear e0 e1 e2 e3 e4 hbx
          have Hbp := Lib.hid (show some wr.heap.size ≠ (Value.slice Ap ps.length cp).ownBlock from fun h => by have := (World.ownsRow.lt Hp.out _ h.symm).2; omega)
          have hs8 := b8.size
          rw [World.size_alloc] at Z8
          clear ho8 hg8 hor8
          have x2 := Lib.hid (IntWalk.i64_in (ceilI (lacks (binAt L k)) (binAt L k).lot * (binAt L k).lot) (by unfold lacks; omega))
          have x3 := x2.out
          unfold lacks at x3
          go_wp2_with fail
          refine wp_region_held_drew (S := (fun w' => w'.cell? ⟨wr.heap.size, 4, none⟩ = some (.int .i64 (binAt L k).lot))) (by kernel_rfl) ?_ (fun hHeld => ?_)
          · (try dsimp only); first | assumption | exact (World.cell?_of_block (hg6.block _ (by simp; omega) Hbp.out)).trans (by assumption) | go_keep
          refine wpAnyH_take (i := 0) (v := ?_) rfl (by kernel_rfl) (by kernel_rfl) (by kernel_rfl) (fun _ _ _ h => h) (Or.inl ⟨by rfl, ?_⟩) (by assumption) ?_
          rotate_left
          · (intro w hSw; (try dsimp only at hSw); go_simp) <;> with_reducible rfl
          try simp only [Act.put, List.setIfInBounds_toArray, List.set_cons_zero, List.set_cons_succ, List.getElem_toArray, List.getElem_cons_succ, List.getElem_cons_zero]
          refine wpAnyH_take (i := 1) (v := ?_) rfl (by kernel_rfl) (by kernel_rfl) (by kernel_rfl) (fun _ _ _ h => h) (Or.inl ⟨by rfl, ?_⟩) (by assumption) ?_
          rotate_left
          · (intro w hSw; (try dsimp only at hSw); go_simp) <;> with_reducible rfl
          try simp only [Act.put, List.setIfInBounds_toArray, List.set_cons_zero, List.set_cons_succ, List.getElem_toArray, List.getElem_cons_succ, List.getElem_cons_zero]
          refine wpAnyH_take (i := 2) (v := ?_) rfl (by kernel_rfl) (by kernel_rfl) (by kernel_rfl) (fun _ _ _ h => h) (Or.inl ⟨by rfl, ?_⟩) (by assumption) ?_
          rotate_left
          · (intro w hSw; (try dsimp only at hSw); go_simp) <;> with_reducible rfl
          try simp only [Act.put, List.setIfInBounds_toArray, List.set_cons_zero, List.set_cons_succ, List.getElem_toArray, List.getElem_cons_succ, List.getElem_cons_zero]
          refine wpAnyH_take (i := 3) (v := ?_) rfl (by kernel_rfl) (by kernel_rfl) (by kernel_rfl) (fun _ _ _ h => h) (Or.inl ⟨by rfl, ?_⟩) (by assumption) ?_
          rotate_left
          · (intro w hSw; (try dsimp only at hSw); go_simp) <;> with_reducible rfl
          try simp only [Act.put, List.setIfInBounds_toArray, List.set_cons_zero, List.set_cons_succ, List.getElem_toArray, List.getElem_cons_succ, List.getElem_cons_zero]
          refine wpAnyH_take (i := 5) (v := ?_) rfl (by kernel_rfl) (by kernel_rfl) (by kernel_rfl) (fun _ _ _ h => h) (Or.inl ⟨by rfl, ?_⟩) (by assumption) ?_
          rotate_left
          · (intro w hSw; (try dsimp only at hSw); go_simp) <;> with_reducible rfl
          try simp only [Act.put, List.setIfInBounds_toArray, List.set_cons_zero, List.set_cons_succ, List.getElem_toArray, List.getElem_cons_succ, List.getElem_cons_zero]
          refine wpAnyH_take (i := 6) (v := ?_) rfl (by kernel_rfl) (by kernel_rfl) (by kernel_rfl) (fun _ _ _ h => h) (Or.inl ⟨by rfl, ?_⟩) (by assumption) ?_
          rotate_left
          · (intro w hSw; (try dsimp only at hSw); go_simp) <;> with_reducible rfl
          try simp only [Act.put, List.setIfInBounds_toArray, List.set_cons_zero, List.set_cons_succ, List.getElem_toArray, List.getElem_cons_succ, List.getElem_cons_zero]
          refine wpAnyH_ready (rs := [4]) (by kernel_rfl) (by simp) ?_
          refine AllReadyH.cons rfl (fun K hK => ?_) AllReadyH.nil
          try dsimp only [List.getElem_toArray, List.getElem_cons_succ, List.getElem_cons_zero]
          go_simp
          refine (implCeil_any _ _ _ ⟨by omega, by omega⟩ ⟨by omega, by omega⟩).mono ?_
          rintro e w9 ⟨rfl, rfl⟩
          go_wp2_with fail
          refine hK.out _ _ ?_ (fun hHeld => ?_)
          · (try dsimp only); first | assumption | exact (World.cell?_of_block (hg6.block _ (by simp; omega) Hbp.out)).trans (by assumption) | go_keep
          clear hK K
          try simp only [Act.put, List.setIfInBounds_toArray, List.set_cons_zero, List.set_cons_succ, List.getElem_toArray, List.getElem_cons_succ, List.getElem_cons_zero]
          refine wpAnyH_take (i := 7) (v := ?_) rfl (by kernel_rfl) (by kernel_rfl) (by kernel_rfl) (fun _ _ _ h => h) (Or.inl ⟨by rfl, ?_⟩) (by assumption) ?_
          rotate_left
          · (intro w hSw; (try dsimp only at hSw); go_simp) <;> with_reducible rfl
          try simp only [Act.put, List.setIfInBounds_toArray, List.set_cons_zero, List.set_cons_succ, List.getElem_toArray, List.getElem_cons_succ, List.getElem_cons_zero]
          refine wpAnyH_ready (rs := [8]) (by kernel_rfl) (by simp) ?_
          refine AllReadyH.cons rfl (fun K hK => ?_) AllReadyH.nil
          try dsimp only [List.getElem_toArray, List.getElem_cons_succ, List.getElem_cons_zero]
          go_simp
          refine hK.out _ _ ?_ (fun hHeld => ?_)
          · (try dsimp only); first | assumption | exact (World.cell?_of_block (hg6.block _ (by simp; omega) Hbp.out)).trans (by assumption) | go_keep
          clear hK K
          try simp only [Act.put, List.setIfInBounds_toArray, List.set_cons_zero, List.set_cons_succ, List.getElem_toArray, List.getElem_cons_succ, List.getElem_cons_zero]
          refine wpAnyH_ready (rs := [9]) (by kernel_rfl) (by simp) ?_
          refine AllReadyH.cons rfl (fun K hK => ?_) AllReadyH.nil
          (refine step_append_sl _ (by rfl) (.tmp 34) (.tmp 42) _ (by rfl) w2.heap.size 2 j0 _ 1 8 Try.underlying51 hj hy0 hy1 hy2 rfl (by omega) _ ps.length (intsRow ps) (by rfl) ((P8.out.drew).alloc _) (some ⟨w8.heap.size, 0, none⟩) 1 1 [.int .i64 (ceilI ((binAt L k).point - ((binAt L k).amount - (binAt L k).reserved)) (binAt L k).lot * (binAt L k).lot)] (by rfl) (Rd.of_block (cs := #[.int .i64 (ceilI ((binAt L k).point - ((binAt L k).amount - (binAt L k).reserved)) (binAt L k).lot * (binAt L k).lot)]) (heap_alloc_new w8.drew _) rfl) (by intro x hx; simp at hx; subst hx; rfl) (by unfold maxLen; omega) (by omega) (by simp <;> omega) ?_; intro A6 c6 w6 ho6 hg6 hor6)
          refine hK.out _ _ ?_ (fun hHeld => ?_)
          · (try dsimp only); first | assumption | exact (World.cell?_of_block (hg6.block _ (by simp; omega) Hbp.out)).trans (by assumption) | go_keep
          clear hK K
          try simp only [Act.put, List.setIfInBounds_toArray, List.set_cons_zero, List.set_cons_succ, List.getElem_toArray, List.getElem_cons_succ, List.getElem_cons_zero]
          refine wpAnyH_take (i := 10) (v := ?_) rfl (by kernel_rfl) (by kernel_rfl) (by kernel_rfl) (fun _ _ _ h => h) (Or.inl ⟨by rfl, ?_⟩) (by assumption) ?_
          rotate_left
          · (intro w hSw; (try dsimp only at hSw); go_simp) <;> with_reducible rfl
          try simp only [Act.put, List.setIfInBounds_toArray, List.set_cons_zero, List.set_cons_succ, List.getElem_toArray, List.getElem_cons_succ, List.getElem_cons_zero]
          refine wpAnyH_done (by kernel_rfl) ?_ _
          have b6 : Below w2.heap.size w2 w6 := ((b8.drew).alloc (by simp; omega) _).grown hg6 (by simp; omega) (fun q hq => (World.ownsRow.lt P8.out q hq).1)
          have O6 := Lib.hid (World.ownsRow.kept ((O8.out.drew).alloc (.cells #[.int .i64 (ceilI ((binAt L k).point - ((binAt L k).amount - (binAt L k).reserved)) (binAt L k).lot * (binAt L k).lot)] 2)) hg6 N8.out)
          have N6 := Lib.hid (apart_append N8.out (fun q hq => World.ownsRow.lt ((O8.out.drew).alloc (.cells #[.int .i64 (ceilI ((binAt L k).point - ((binAt L k).amount - (binAt L k).reserved)) (binAt L k).lot * (binAt L k).lot)] 2)) q hq) hor6)
          have P6 := Lib.hid ho6
          clear ho6 hg6 hor6 x3 f4 hHeld
          go_wp2
          go_roundw
          case rel =>
            refine ⟨k + 1, ns ++ [(binAt L k).code], ps ++ [ceilI (lacks (binAt L k)) (binAt L k).lot * (binAt L k).lot], A8, c8, A6, c6, by omega, by rw [E1.out, ← Hns.out], by rw [E2.out, ← Hps.out], by simp; omega, by simp; omega, by go_num, by rw [List.length_append]; rfl, by rw [List.length_append]; rfl, ?_, ?_, b6, ?_⟩
            · rw [List.length_append, strsRow_append]; exact O6.out
            · rw [List.length_append, intsRow_append]; exact P6.out
            · rw [List.length_append, List.length_append]; exact N6.out
          case measure => simp [intOf]; omega
        · have E := Lib.hid (ord_no L hlt hw)
          have hw' : ¬ 0 < (binAt L k).point - ((binAt L k).amount - (binAt L k).reserved) := hw
          have Hw := Lib.hid hw
          clear hw
          go_wp2
          go_roundw
          case rel => exact ⟨k + 1, ns, ps, Ao, co, Ap, cp, by omega, by rw [E.out.1, ← Hns.out], by rw [E.out.2, ← Hps.out], by omega, by omega, by go_num, rfl, rfl, Ho.out.alloc _, Hp.out.alloc _, hb.alloc hsz _, Hne.out⟩
          case measure => simp [intOf]; omega
      · have hk2 : L.take k = L := List.take_of_length_le (by omega)
        have H1 := Lib.hid (show orderList L = (ns, ps, 0) by rw [H.out, Hns.out, Hps.out, hk2])
        clear hk2
        go_wp2
        go_ret3
        exact RetSSC.ok H1.out Ho.out rfl rfl Hp.out rfl rfl hs2 hs2 Hne.out (hb2.trans (hb.mono hs2))

set_option maxHeartbeats 4000000 in
theorem specOrderList_any (w : World) (L : List Bin) (v : Value) (hv : Sl w 5 v L.length (binRow L)) (hf : binFit L) (hn : L.length ≤ 4194304) :
    Calls Try.prog 47 #[v] w (RetSSC w.heap.size 9 1 strsRow 2 1 intsRow (orderList L) w) := by
  have Hv := Lib.hid hv
  have Hf := Lib.hid hf
  clear hf
  cases h1 : isStock L
  · have H := Lib.hid (show orderList L = ([], [], 1) by simp [orderList, h1])
    clear hv
    go_enter Try.func47, Try.ntmps47
    go_wp2_with fail
    refine (specIsStock_any w L v Hv.out Hf.out hn).mono ?_
    rintro e w2 ⟨rfl, hb2⟩
    rw [h1]
    go_wp2
    go_ret3
    exact RetSSC.ok H.out (World.ownsRow_nil _ _ _ _) rfl rfl (World.ownsRow_nil _ _ _ _) rfl rfl (Nat.le_refl _) (Nat.le_refl _) (.inl rfl) hb2
  · have hL20 := isStock_le h1
    have H := Lib.hid (show orderList L = (ordCodes L, ordPieces L, 0) by simp [orderList, h1])
    obtain ⟨i0, hi, hz0, hz1, hz2⟩ := info_parts Try.info_strs
    obtain ⟨j0, hj, hy0, hy1, hy2⟩ := info_parts Try.info_ints
    obtain ⟨A, c, rfl, hl, hc, hr⟩ := hv
    have Hr := Lib.hid hr
    clear hr hl hc
    go_enter Try.func47, Try.ntmps47
    go_wp2_with fail
    refine (specIsStock_any w L _ Hv.out Hf.out hn).mono ?_
    rintro e w2 ⟨rfl, hb2⟩
    rw [h1]
    have Hr2 := Lib.hid (Hr.out.below' hb2)
    have hs2 := hb2.size
    go_wp2
    go_loopw [5, 6, 7] (fun s t i wr => ∃ (k : Nat) (ns : List ByteArray) (ps : List Int) (Ao : Option Addr) (co : Nat) (Ap : Option Addr) (cp : Nat), k ≤ L.length ∧ ns = ordCodes (L.take k) ∧ ps = ordPieces (L.take k) ∧ ns.length ≤ k ∧ ps.length ≤ k ∧ i = .int .i64 k ∧ s = .slice Ao ns.length co ∧ t = .slice Ap ps.length cp ∧
        wr.ownsRow w2.heap.size 9 1 (.slice Ao ns.length co) ns.length (strsRow ns) ∧ wr.ownsRow w2.heap.size 2 1 (.slice Ap ps.length cp) ps.length (intsRow ps) ∧ Below w2.heap.size w2 wr ∧ ((Value.slice Ao ns.length co).ownBlock = none ∨ (Value.slice Ao ns.length co).ownBlock ≠ (Value.slice Ap ps.length cp).ownBlock)) (fun _ _ i _ => L.length - (intOf i).toNat)
    case atStart => exact ⟨0, [], [], some ⟨w2.heap.size, 0, none⟩, 0, some ⟨w2.heap.size + 1, 0, none⟩, 0, Nat.zero_le _, rfl, rfl, Nat.le_refl _, Nat.le_refl _, rfl, rfl, rfl, (own_empty _ _ _ (Nat.le_refl _)).alloc _, own_empty' _ _ _ (by simp) (by simp), ((Below.refl _ _).alloc (Nat.le_refl _) _).alloc (by simp) _, .inr (by simp [Value.ownBlock])⟩
    case round =>
      obtain ⟨k, ns, ps, Ao, co, Ap, cp, hk, hns, hps, hnl, hpl, rfl, rfl, rfl, ho, hp, hb, hne⟩ := hrel
      have Hns := Lib.hid hns
      have Hps := Lib.hid hps
      have Ho := Lib.hid ho
      have Hp := Lib.hid hp
      have Hne := Lib.hid hne
      have hsz := hb.size
      clear hns hps ho hp hne
      by_cases hlt : k < L.length
      · obtain ⟨g, o, rfl, hg, c0, c1, c2, c3, c4⟩ := (Hr2.out.below hb (Nat.le_refl _)).bin hlt
        obtain ⟨_, ⟨a1, a2⟩, ⟨r1, r2⟩, ⟨p1, p2⟩, ⟨l1, l2⟩⟩ := stock_bin h1 hlt
        have r3 : (binAt L k).reserved ≤ 100000 := by omega
        have i1 : (0 : Int) ≤ (k : Int) := Int.natCast_nonneg _
        have i2 : (k : Int) < (L.length : Int) := by omega
        by_cases hw : 0 < lacks (binAt L k)
        · have E1 := Lib.hid (ord_yes L hlt hw).1
          have E2 := Lib.hid (ord_yes L hlt hw).2
          have hw' : 0 < (binAt L k).point - ((binAt L k).amount - (binAt L k).reserved) := hw
          have hcb := ceil_bd hw' (show 0 < (binAt L k).lot by omega)
          obtain ⟨q1, q2, q3, q4⟩ := hcb
          have Hw := Lib.hid hw
          clear hw
          have t0 : decide ((binAt L k).amount - (binAt L k).reserved < (binAt L k).point) = true := by simp; omega
          go_wp2_with fail
          obtain ⟨wb, hwb⟩ : ∃ wb, wb = wr.alloc (.cells #[.string (binAt L k).code, .int .i64 (binAt L k).amount, .int .i64 (binAt L k).reserved, .int .i64 (binAt L k).point, .int .i64 (binAt L k).lot] 58) := ⟨_, rfl⟩
          have bb : Below w2.heap.size w2 wb := by rw [hwb]; exact hb.alloc hsz _
          have zb : wb.heap.size = wr.heap.size + 1 := by rw [hwb, World.size_alloc]
          have e0 : wb.cell? ⟨wr.heap.size, 0, none⟩ = some (.string (binAt L k).code) := by rw [hwb]; go_simp
          have e1 : wb.cell? ⟨wr.heap.size, 1, none⟩ = some (.int .i64 (binAt L k).amount) := by rw [hwb]; go_simp
          have e2 : wb.cell? ⟨wr.heap.size, 2, none⟩ = some (.int .i64 (binAt L k).reserved) := by rw [hwb]; go_simp
          have e3 : wb.cell? ⟨wr.heap.size, 3, none⟩ = some (.int .i64 (binAt L k).point) := by rw [hwb]; go_simp
          have e4 : wb.cell? ⟨wr.heap.size, 4, none⟩ = some (.int .i64 (binAt L k).lot) := by rw [hwb]; go_simp
          have Ob := Lib.hid (show wb.ownsRow w2.heap.size 9 1 (.slice Ao ns.length co) ns.length (strsRow ns) by rw [hwb]; exact Ho.out.alloc _)
          have Pb := Lib.hid (show wb.ownsRow w2.heap.size 2 1 (.slice Ap ps.length cp) ps.length (intsRow ps) by rw [hwb]; exact Hp.out.alloc _)
          have hzb := bb.size
          clear c0 c1 c2 c3 c4
          rw [← hwb]
          clear hwb
          have zb' : wr.heap.size < wb.heap.size := by omega
          refine wp_region_held_drew (S := (fun w' => w'.cell? ⟨wr.heap.size, 0, none⟩ = some (.string (binAt L k).code) ∧ w'.cell? ⟨wr.heap.size, 1, none⟩ = some (.int .i64 (binAt L k).amount) ∧ w'.cell? ⟨wr.heap.size, 2, none⟩ = some (.int .i64 (binAt L k).reserved) ∧ w'.cell? ⟨wr.heap.size, 3, none⟩ = some (.int .i64 (binAt L k).point) ∧ w'.cell? ⟨wr.heap.size, 4, none⟩ = some (.int .i64 (binAt L k).lot))) (by kernel_rfl) ?_ (fun hHeld => ?_)
          · (try dsimp only); first | (go_split_ands; exact ⟨by assumption, by assumption, by assumption, by assumption, by assumption⟩) | (go_split_ands; refine ⟨?_, ?_, ?_, ?_, ?_⟩ <;> (rw [hb3.cell (by simp; omega)]; assumption)) | (go_split_ands; refine ⟨?_, ?_, ?_, ?_, ?_⟩ <;> (refine (World.cell?_of_block (hg6.block _ (by simp; omega) Hbp.out)).trans ?_; assumption)) | go_keep
          refine wpAnyH_take (i := 0) (v := ?_) rfl (by kernel_rfl) (by kernel_rfl) (by kernel_rfl) (fun _ _ _ h => h) (Or.inl ⟨by rfl, ?_⟩) (by assumption) ?_
          rotate_left
          · (intro w hSw; (try dsimp only at hSw); go_simp) <;> with_reducible rfl
          try simp only [Act.put, List.setIfInBounds_toArray, List.set_cons_zero, List.set_cons_succ, List.getElem_toArray, List.getElem_cons_succ, List.getElem_cons_zero]
          refine wpAnyH_take (i := 2) (v := ?_) rfl (by kernel_rfl) (by kernel_rfl) (by kernel_rfl) (fun _ _ _ h => h) (Or.inl ⟨by rfl, ?_⟩) (by assumption) ?_
          rotate_left
          · (intro w hSw; (try dsimp only at hSw); go_simp) <;> with_reducible rfl
          try simp only [Act.put, List.setIfInBounds_toArray, List.set_cons_zero, List.set_cons_succ, List.getElem_toArray, List.getElem_cons_succ, List.getElem_cons_zero]
          refine wpAnyH_take (i := 3) (v := ?_) rfl (by kernel_rfl) (by kernel_rfl) (by kernel_rfl) (fun _ _ _ h => h) (Or.inl ⟨by rfl, ?_⟩) (by assumption) ?_
          rotate_left
          · (intro w hSw; (try dsimp only at hSw); go_simp) <;> with_reducible rfl
          try simp only [Act.put, List.setIfInBounds_toArray, List.set_cons_zero, List.set_cons_succ, List.getElem_toArray, List.getElem_cons_succ, List.getElem_cons_zero]
          refine wpAnyH_ready (rs := [1]) (by kernel_rfl) (by simp) ?_
          refine AllReadyH.cons rfl (fun K hK => ?_) AllReadyH.nil
          try dsimp only [List.getElem_toArray, List.getElem_cons_succ, List.getElem_cons_zero]
          go_simp
          refine (specBinFree_any (binAt L k) _ ⟨by omega, by omega⟩ ⟨by omega, by omega⟩).mono ?_
          rintro e w3 ⟨rfl, hb3⟩
          go_wp2_with fail
          refine hK.out _ _ ?_ (fun hHeld => ?_)
          · (try dsimp only); first | (go_split_ands; exact ⟨by assumption, by assumption, by assumption, by assumption, by assumption⟩) | (go_split_ands; refine ⟨?_, ?_, ?_, ?_, ?_⟩ <;> (rw [hb3.cell (by simp; omega)]; assumption)) | (go_split_ands; refine ⟨?_, ?_, ?_, ?_, ?_⟩ <;> (refine (World.cell?_of_block (hg6.block _ (by simp; omega) Hbp.out)).trans ?_; assumption)) | go_keep
          clear hK K
          try simp only [Act.put, List.setIfInBounds_toArray, List.set_cons_zero, List.set_cons_succ, List.getElem_toArray, List.getElem_cons_succ, List.getElem_cons_zero]
          refine wpAnyH_take (i := 4) (v := ?_) rfl (by kernel_rfl) (by kernel_rfl) (by kernel_rfl) (fun _ _ _ h => h) (Or.inl ⟨by rfl, ?_⟩) (by assumption) ?_
          rotate_left
          · (intro w hSw; (try dsimp only at hSw); go_simp) <;> with_reducible rfl
          try simp only [Act.put, List.setIfInBounds_toArray, List.set_cons_zero, List.set_cons_succ, List.getElem_toArray, List.getElem_cons_succ, List.getElem_cons_zero]
          refine wpAnyH_done (by kernel_rfl) ?_ _
          have b3 := (Below.drew bb).trans (hb3.mono bb.size)
          have hs3 := b3.size
          have z3 := hb3.size
          simp only [World.size_drew] at z3
          have O3 := Lib.hid (own_below (Ob.out.drew) hb3)
          have P3 := Lib.hid (own_below (Pb.out.drew) hb3)
          try dsimp only at hHeld
          obtain ⟨e0', e1', e2', e3', e4'⟩ := hHeld
          clear e0 e1 e2 e3 e4
          go_wp2_with (at_builtin; refine wpList_append_sl _ rfl (.tmp 29) (.tmp 32) _ rfl w2.heap.size 9 i0 _ 1 16 Try.underlying38 hi hz0 hz1 hz2 rfl (by omega) _ ns.length (strsRow ns) rfl (O3.out.alloc _) (some ⟨w3.heap.size, 0, none⟩) 1 1 [.string (binAt L k).code] rfl (Rd.of_block (cs := #[.string (binAt L k).code]) (heap_alloc_new _ _) rfl) (by intro x hx; simp at hx; subst hx; rfl) (by unfold maxLen; omega) (by omega) (by simp <;> omega) ?_; intro A8 c8 w8 ho8 hg8 hor8)
          have b8 : Below w2.heap.size w2 w8 := (b3.alloc hs3 _).grown hg8 (by simp; omega) (fun q hq => (World.ownsRow.lt O3.out q hq).1)
          have Tp := Lib.hid (World.ownsRow.lt P3.out)
          have O8 := Lib.hid ho8
          have P8 := Lib.hid (World.ownsRow.kept (P3.out.alloc (.cells #[.string (binAt L k).code] 9)) hg8 (ne_symm Hne.out))
          have N8 := Lib.hid (ne_symm (apart_append (ne_symm Hne.out) (w := w3.alloc (.cells #[.string (binAt L k).code] 9)) (fun q hq => ⟨(Tp.out q hq).1, by have := (Tp.out q hq).2; simp; omega⟩) hor8))
          have Z8 := hg8.size
          have hbx : some wr.heap.size ≠ (Value.slice Ao ns.length co).ownBlock := fun h => by have := (World.ownsRow.lt Ho.out _ h.symm).2; omega
          have hfar : ∀ j x, w3.cell? ⟨wr.heap.size, j, none⟩ = some x → w8.cell? ⟨wr.heap.size, j, none⟩ = some x := fun j x hx => (World.cell?_of_block (hg8.block wr.heap.size (by simp; omega) hbx)).trans ((World.cell?_alloc_lt _ _ _ (by show wr.heap.size < w3.heap.size; omega)).trans hx)
          have f0 := hfar _ _ e0'
          have f1 := hfar _ _ e1'
          have f2 := hfar _ _ e2'
          have f3 := hfar _ _ e3'
          have f4 := hfar _ _ e4'
          have Hbp := Lib.hid (show some wr.heap.size ≠ (Value.slice Ap ps.length cp).ownBlock from fun h => by have := (World.ownsRow.lt Hp.out _ h.symm).2; omega)
          clear e0' e1' e2' e3' e4' hbx hfar
          have hs8 := b8.size
          rw [World.size_alloc] at Z8
          clear ho8 hg8 hor8
          have hcm : (binAt L k).lot * ceilI ((binAt L k).point - ((binAt L k).amount - (binAt L k).reserved)) (binAt L k).lot = ceilI (lacks (binAt L k)) (binAt L k).lot * (binAt L k).lot := Int.mul_comm _ _
          have Hcm := Lib.hid hcm
          have x3 := IntWalk.i64_in ((binAt L k).lot * ceilI ((binAt L k).point - ((binAt L k).amount - (binAt L k).reserved)) (binAt L k).lot) (by rw [hcm]; unfold lacks; omega)
          have x4 := IntWalk.i64_in ((binAt L k).point - ((binAt L k).amount - (binAt L k).reserved)) (by omega)
          clear hcm
          go_wp2_with fail
          refine wp_region_held_drew (S := (fun w' => w'.cell? ⟨wr.heap.size, 0, none⟩ = some (.string (binAt L k).code) ∧ w'.cell? ⟨wr.heap.size, 1, none⟩ = some (.int .i64 (binAt L k).amount) ∧ w'.cell? ⟨wr.heap.size, 2, none⟩ = some (.int .i64 (binAt L k).reserved) ∧ w'.cell? ⟨wr.heap.size, 3, none⟩ = some (.int .i64 (binAt L k).point) ∧ w'.cell? ⟨wr.heap.size, 4, none⟩ = some (.int .i64 (binAt L k).lot))) (by kernel_rfl) ?_ (fun hHeld => ?_)
          · (try dsimp only); first | (go_split_ands; exact ⟨by assumption, by assumption, by assumption, by assumption, by assumption⟩) | (go_split_ands; refine ⟨?_, ?_, ?_, ?_, ?_⟩ <;> (rw [hb5.cell (by simp; omega)]; assumption)) | (go_split_ands; refine ⟨?_, ?_, ?_, ?_, ?_⟩ <;> (refine (World.cell?_of_block (hg6.block _ (by simp; omega) Hbp.out)).trans ?_; assumption)) | go_keep
          refine wpAnyH_take (i := 0) (v := ?_) rfl (by kernel_rfl) (by kernel_rfl) (by kernel_rfl) (fun _ _ _ h => h) (Or.inl ⟨by rfl, ?_⟩) (by assumption) ?_
          rotate_left
          · (intro w hSw; (try dsimp only at hSw); go_simp) <;> with_reducible rfl
          try simp only [Act.put, List.setIfInBounds_toArray, List.set_cons_zero, List.set_cons_succ, List.getElem_toArray, List.getElem_cons_succ, List.getElem_cons_zero]
          refine wpAnyH_take (i := 1) (v := ?_) rfl (by kernel_rfl) (by kernel_rfl) (by kernel_rfl) (fun _ _ _ h => h) (Or.inl ⟨by rfl, ?_⟩) (by assumption) ?_
          rotate_left
          · (intro w hSw; (try dsimp only at hSw); go_simp) <;> with_reducible rfl
          try simp only [Act.put, List.setIfInBounds_toArray, List.set_cons_zero, List.set_cons_succ, List.getElem_toArray, List.getElem_cons_succ, List.getElem_cons_zero]
          refine wpAnyH_take (i := 2) (v := ?_) rfl (by kernel_rfl) (by kernel_rfl) (by kernel_rfl) (fun _ _ _ h => h) (Or.inl ⟨by rfl, ?_⟩) (by assumption) ?_
          rotate_left
          · (intro w hSw; (try dsimp only at hSw); go_simp) <;> with_reducible rfl
          try simp only [Act.put, List.setIfInBounds_toArray, List.set_cons_zero, List.set_cons_succ, List.getElem_toArray, List.getElem_cons_succ, List.getElem_cons_zero]
          refine wpAnyH_take (i := 3) (v := ?_) rfl (by kernel_rfl) (by kernel_rfl) (by kernel_rfl) (fun _ _ _ h => h) (Or.inl ⟨by rfl, ?_⟩) (by assumption) ?_
          rotate_left
          · (intro w hSw; (try dsimp only at hSw); go_simp) <;> with_reducible rfl
          try simp only [Act.put, List.setIfInBounds_toArray, List.set_cons_zero, List.set_cons_succ, List.getElem_toArray, List.getElem_cons_succ, List.getElem_cons_zero]
          refine wpAnyH_take (i := 4) (v := ?_) rfl (by kernel_rfl) (by kernel_rfl) (by kernel_rfl) (fun _ _ _ h => h) (Or.inl ⟨by rfl, ?_⟩) (by assumption) ?_
          rotate_left
          · (intro w hSw; (try dsimp only at hSw); go_simp) <;> with_reducible rfl
          try simp only [Act.put, List.setIfInBounds_toArray, List.set_cons_zero, List.set_cons_succ, List.getElem_toArray, List.getElem_cons_succ, List.getElem_cons_zero]
          refine wpAnyH_take (i := 5) (v := ?_) rfl (by kernel_rfl) (by kernel_rfl) (by kernel_rfl) (fun _ _ _ h => h) (Or.inl ⟨by rfl, ?_⟩) (by assumption) ?_
          rotate_left
          · (intro w hSw; (try dsimp only at hSw); go_simp) <;> with_reducible rfl
          try simp only [Act.put, List.setIfInBounds_toArray, List.set_cons_zero, List.set_cons_succ, List.getElem_toArray, List.getElem_cons_succ, List.getElem_cons_zero]
          refine wpAnyH_take (i := 8) (v := ?_) rfl (by kernel_rfl) (by kernel_rfl) (by kernel_rfl) (fun _ _ _ h => h) (Or.inl ⟨by rfl, ?_⟩) (by assumption) ?_
          rotate_left
          · (intro w hSw; (try dsimp only at hSw); go_simp) <;> with_reducible rfl
          try simp only [Act.put, List.setIfInBounds_toArray, List.set_cons_zero, List.set_cons_succ, List.getElem_toArray, List.getElem_cons_succ, List.getElem_cons_zero]
          refine wpAnyH_take (i := 9) (v := ?_) rfl (by kernel_rfl) (by kernel_rfl) (by kernel_rfl) (fun _ _ _ h => h) (Or.inl ⟨by rfl, ?_⟩) (by assumption) ?_
          rotate_left
          · (intro w hSw; (try dsimp only at hSw); go_simp) <;> with_reducible rfl
          try simp only [Act.put, List.setIfInBounds_toArray, List.set_cons_zero, List.set_cons_succ, List.getElem_toArray, List.getElem_cons_succ, List.getElem_cons_zero]
          refine wpAnyH_ready (rs := [6]) (by kernel_rfl) (by simp) ?_
          refine AllReadyH.cons rfl (fun K hK => ?_) AllReadyH.nil
          try dsimp only [List.getElem_toArray, List.getElem_cons_succ, List.getElem_cons_zero]
          go_simp
          refine (specBinFree_any (binAt L k) _ ⟨by omega, by omega⟩ ⟨by omega, by omega⟩).mono ?_
          rintro e w5 ⟨rfl, hb5⟩
          have z5 := hb5.size
          simp only [World.size_drew] at z5
          have b5 := (Below.drew b8).trans (hb5.mono b8.size)
          have O5 := Lib.hid (own_below (O8.out.drew) hb5)
          have P5 := Lib.hid (own_below (P8.out.drew) hb5)
          have hs5 := b5.size
          go_wp2_with fail
          refine hK.out _ _ ?_ (fun hHeld => ?_)
          · (try dsimp only); first | (go_split_ands; exact ⟨by assumption, by assumption, by assumption, by assumption, by assumption⟩) | (go_split_ands; refine ⟨?_, ?_, ?_, ?_, ?_⟩ <;> (rw [hb5.cell (by simp; omega)]; assumption)) | (go_split_ands; refine ⟨?_, ?_, ?_, ?_, ?_⟩ <;> (refine (World.cell?_of_block (hg6.block _ (by simp; omega) Hbp.out)).trans ?_; assumption)) | go_keep
          clear hK K
          try simp only [Act.put, List.setIfInBounds_toArray, List.set_cons_zero, List.set_cons_succ, List.getElem_toArray, List.getElem_cons_succ, List.getElem_cons_zero]
          refine wpAnyH_take (i := 7) (v := ?_) rfl (by kernel_rfl) (by kernel_rfl) (by kernel_rfl) (fun _ _ _ h => h) (Or.inl ⟨by rfl, ?_⟩) (by assumption) ?_
          rotate_left
          · (intro w hSw; (try dsimp only at hSw); go_simp) <;> with_reducible rfl
          try simp only [Act.put, List.setIfInBounds_toArray, List.set_cons_zero, List.set_cons_succ, List.getElem_toArray, List.getElem_cons_succ, List.getElem_cons_zero]
          refine wpAnyH_ready (rs := [10]) (by kernel_rfl) (by simp) ?_
          refine AllReadyH.cons rfl (fun K hK => ?_) AllReadyH.nil
          try dsimp only [List.getElem_toArray, List.getElem_cons_succ, List.getElem_cons_zero]
          go_simp
          refine (specCeil_any _ _ _ ⟨by omega, by omega⟩ ⟨by omega, by omega⟩).mono ?_
          rintro e w9 ⟨rfl, rfl⟩
          go_wp2_with fail
          refine hK.out _ _ ?_ (fun hHeld => ?_)
          · (try dsimp only); first | (go_split_ands; exact ⟨by assumption, by assumption, by assumption, by assumption, by assumption⟩) | (go_split_ands; refine ⟨?_, ?_, ?_, ?_, ?_⟩ <;> (rw [hb5.cell (by simp; omega)]; assumption)) | (go_split_ands; refine ⟨?_, ?_, ?_, ?_, ?_⟩ <;> (refine (World.cell?_of_block (hg6.block _ (by simp; omega) Hbp.out)).trans ?_; assumption)) | go_keep
          clear hK K
          try simp only [Act.put, List.setIfInBounds_toArray, List.set_cons_zero, List.set_cons_succ, List.getElem_toArray, List.getElem_cons_succ, List.getElem_cons_zero]
          refine wpAnyH_take (i := 11) (v := ?_) rfl (by kernel_rfl) (by kernel_rfl) (by kernel_rfl) (fun _ _ _ h => h) (Or.inl ⟨by rfl, ?_⟩) (by assumption) ?_
          rotate_left
          · (intro w hSw; (try dsimp only at hSw); go_simp) <;> with_reducible rfl
          try simp only [Act.put, List.setIfInBounds_toArray, List.set_cons_zero, List.set_cons_succ, List.getElem_toArray, List.getElem_cons_succ, List.getElem_cons_zero]
          refine wpAnyH_ready (rs := [12]) (by kernel_rfl) (by simp) ?_
          refine AllReadyH.cons rfl (fun K hK => ?_) AllReadyH.nil
          try dsimp only [List.getElem_toArray, List.getElem_cons_succ, List.getElem_cons_zero]
          go_simp
          refine hK.out _ _ ?_ (fun hHeld => ?_)
          · (try dsimp only); first | (go_split_ands; exact ⟨by assumption, by assumption, by assumption, by assumption, by assumption⟩) | (go_split_ands; refine ⟨?_, ?_, ?_, ?_, ?_⟩ <;> (rw [hb5.cell (by simp; omega)]; assumption)) | (go_split_ands; refine ⟨?_, ?_, ?_, ?_, ?_⟩ <;> (refine (World.cell?_of_block (hg6.block _ (by simp; omega) Hbp.out)).trans ?_; assumption)) | go_keep
          clear hK K
          try simp only [Act.put, List.setIfInBounds_toArray, List.set_cons_zero, List.set_cons_succ, List.getElem_toArray, List.getElem_cons_succ, List.getElem_cons_zero]
          refine wpAnyH_ready (rs := [13]) (by kernel_rfl) (by simp) ?_
          refine AllReadyH.cons rfl (fun K hK => ?_) AllReadyH.nil
          (refine step_append_sl _ (by rfl) (.tmp 34) (.tmp 46) _ (by rfl) w2.heap.size 2 j0 _ 1 8 Try.underlying51 hj hy0 hy1 hy2 rfl (by omega) _ ps.length (intsRow ps) (by rfl) (P5.out.alloc _) (some ⟨w5.heap.size, 0, none⟩) 1 1 [.int .i64 ((binAt L k).lot * ceilI ((binAt L k).point - ((binAt L k).amount - (binAt L k).reserved)) (binAt L k).lot)] (by rfl) (Rd.of_block (cs := #[.int .i64 ((binAt L k).lot * ceilI ((binAt L k).point - ((binAt L k).amount - (binAt L k).reserved)) (binAt L k).lot)]) (heap_alloc_new w5 _) rfl) (by intro x hx; simp at hx; subst hx; rfl) (by unfold maxLen; omega) (by omega) (by simp <;> omega) ?_; intro A6 c6 w6 ho6 hg6 hor6)
          refine hK.out _ _ ?_ (fun hHeld => ?_)
          · (try dsimp only); first | (go_split_ands; exact ⟨by assumption, by assumption, by assumption, by assumption, by assumption⟩) | (go_split_ands; refine ⟨?_, ?_, ?_, ?_, ?_⟩ <;> (rw [hb5.cell (by simp; omega)]; assumption)) | (go_split_ands; refine ⟨?_, ?_, ?_, ?_, ?_⟩ <;> (refine (World.cell?_of_block (hg6.block _ (by simp; omega) Hbp.out)).trans ?_; assumption)) | go_keep
          clear hK K
          try simp only [Act.put, List.setIfInBounds_toArray, List.set_cons_zero, List.set_cons_succ, List.getElem_toArray, List.getElem_cons_succ, List.getElem_cons_zero]
          refine wpAnyH_take (i := 14) (v := ?_) rfl (by kernel_rfl) (by kernel_rfl) (by kernel_rfl) (fun _ _ _ h => h) (Or.inl ⟨by rfl, ?_⟩) (by assumption) ?_
          rotate_left
          · (intro w hSw; (try dsimp only at hSw); go_simp) <;> with_reducible rfl
          try simp only [Act.put, List.setIfInBounds_toArray, List.set_cons_zero, List.set_cons_succ, List.getElem_toArray, List.getElem_cons_succ, List.getElem_cons_zero]
          refine wpAnyH_done (by kernel_rfl) ?_ _
          have b6 : Below w2.heap.size w2 w6 := (b5.alloc hs5 _).grown hg6 (by simp; omega) (fun q hq => (World.ownsRow.lt P5.out q hq).1)
          have O6 := Lib.hid (World.ownsRow.kept (O5.out.alloc (.cells #[.int .i64 ((binAt L k).lot * ceilI ((binAt L k).point - ((binAt L k).amount - (binAt L k).reserved)) (binAt L k).lot)] 2)) hg6 N8.out)
          have N6 := Lib.hid (apart_append N8.out (fun q hq => World.ownsRow.lt (O5.out.alloc (.cells #[.int .i64 ((binAt L k).lot * ceilI ((binAt L k).point - ((binAt L k).amount - (binAt L k).reserved)) (binAt L k).lot)] 2)) q hq) hor6)
          have P6 := Lib.hid ho6
          clear ho6 hg6 hor6 x3 x4 f0 f1 f2 f3 f4 hHeld
          go_wp2
          go_roundw
          case rel =>
            refine ⟨k + 1, ns ++ [(binAt L k).code], ps ++ [ceilI (lacks (binAt L k)) (binAt L k).lot * (binAt L k).lot], A8, c8, A6, c6, by omega, by rw [E1.out, ← Hns.out], by rw [E2.out, ← Hps.out], by simp; omega, by simp; omega, by go_num, by rw [List.length_append]; rfl, by rw [List.length_append]; rfl, ?_, ?_, b6, ?_⟩
            · rw [List.length_append, strsRow_append]; exact O6.out
            · rw [List.length_append, intsRow_append, ← Hcm.out]; exact P6.out
            · rw [List.length_append, List.length_append]; exact N6.out
          case measure => simp [intOf]; omega
        · have E := Lib.hid (ord_no L hlt hw)
          have hw' : ¬ 0 < (binAt L k).point - ((binAt L k).amount - (binAt L k).reserved) := hw
          have t0 : decide ((binAt L k).amount - (binAt L k).reserved < (binAt L k).point) = false := by simp; omega
          have Hw := Lib.hid hw
          clear hw
          go_wp2_with fail
          obtain ⟨wb, hwb⟩ : ∃ wb, wb = wr.alloc (.cells #[.string (binAt L k).code, .int .i64 (binAt L k).amount, .int .i64 (binAt L k).reserved, .int .i64 (binAt L k).point, .int .i64 (binAt L k).lot] 58) := ⟨_, rfl⟩
          have bb : Below w2.heap.size w2 wb := by rw [hwb]; exact hb.alloc hsz _
          have zb : wb.heap.size = wr.heap.size + 1 := by rw [hwb, World.size_alloc]
          have e0 : wb.cell? ⟨wr.heap.size, 0, none⟩ = some (.string (binAt L k).code) := by rw [hwb]; go_simp
          have e1 : wb.cell? ⟨wr.heap.size, 1, none⟩ = some (.int .i64 (binAt L k).amount) := by rw [hwb]; go_simp
          have e2 : wb.cell? ⟨wr.heap.size, 2, none⟩ = some (.int .i64 (binAt L k).reserved) := by rw [hwb]; go_simp
          have e3 : wb.cell? ⟨wr.heap.size, 3, none⟩ = some (.int .i64 (binAt L k).point) := by rw [hwb]; go_simp
          have e4 : wb.cell? ⟨wr.heap.size, 4, none⟩ = some (.int .i64 (binAt L k).lot) := by rw [hwb]; go_simp
          have Ob := Lib.hid (show wb.ownsRow w2.heap.size 9 1 (.slice Ao ns.length co) ns.length (strsRow ns) by rw [hwb]; exact Ho.out.alloc _)
          have Pb := Lib.hid (show wb.ownsRow w2.heap.size 2 1 (.slice Ap ps.length cp) ps.length (intsRow ps) by rw [hwb]; exact Hp.out.alloc _)
          have hzb := bb.size
          clear c0 c1 c2 c3 c4
          rw [← hwb]
          clear hwb
          have zb' : wr.heap.size < wb.heap.size := by omega
          refine wp_region_held_drew (S := (fun w' => w'.cell? ⟨wr.heap.size, 0, none⟩ = some (.string (binAt L k).code) ∧ w'.cell? ⟨wr.heap.size, 1, none⟩ = some (.int .i64 (binAt L k).amount) ∧ w'.cell? ⟨wr.heap.size, 2, none⟩ = some (.int .i64 (binAt L k).reserved) ∧ w'.cell? ⟨wr.heap.size, 3, none⟩ = some (.int .i64 (binAt L k).point) ∧ w'.cell? ⟨wr.heap.size, 4, none⟩ = some (.int .i64 (binAt L k).lot))) (by kernel_rfl) ?_ (fun hHeld => ?_)
          · (try dsimp only); first | (go_split_ands; exact ⟨by assumption, by assumption, by assumption, by assumption, by assumption⟩) | (go_split_ands; refine ⟨?_, ?_, ?_, ?_, ?_⟩ <;> (rw [hb3.cell (by simp; omega)]; assumption)) | (go_split_ands; refine ⟨?_, ?_, ?_, ?_, ?_⟩ <;> (refine (World.cell?_of_block (hg6.block _ (by simp; omega) Hbp.out)).trans ?_; assumption)) | go_keep
          refine wpAnyH_take (i := 0) (v := ?_) rfl (by kernel_rfl) (by kernel_rfl) (by kernel_rfl) (fun _ _ _ h => h) (Or.inl ⟨by rfl, ?_⟩) (by assumption) ?_
          rotate_left
          · (intro w hSw; (try dsimp only at hSw); go_simp) <;> with_reducible rfl
          try simp only [Act.put, List.setIfInBounds_toArray, List.set_cons_zero, List.set_cons_succ, List.getElem_toArray, List.getElem_cons_succ, List.getElem_cons_zero]
          refine wpAnyH_take (i := 2) (v := ?_) rfl (by kernel_rfl) (by kernel_rfl) (by kernel_rfl) (fun _ _ _ h => h) (Or.inl ⟨by rfl, ?_⟩) (by assumption) ?_
          rotate_left
          · (intro w hSw; (try dsimp only at hSw); go_simp) <;> with_reducible rfl
          try simp only [Act.put, List.setIfInBounds_toArray, List.set_cons_zero, List.set_cons_succ, List.getElem_toArray, List.getElem_cons_succ, List.getElem_cons_zero]
          refine wpAnyH_take (i := 3) (v := ?_) rfl (by kernel_rfl) (by kernel_rfl) (by kernel_rfl) (fun _ _ _ h => h) (Or.inl ⟨by rfl, ?_⟩) (by assumption) ?_
          rotate_left
          · (intro w hSw; (try dsimp only at hSw); go_simp) <;> with_reducible rfl
          try simp only [Act.put, List.setIfInBounds_toArray, List.set_cons_zero, List.set_cons_succ, List.getElem_toArray, List.getElem_cons_succ, List.getElem_cons_zero]
          refine wpAnyH_ready (rs := [1]) (by kernel_rfl) (by simp) ?_
          refine AllReadyH.cons rfl (fun K hK => ?_) AllReadyH.nil
          try dsimp only [List.getElem_toArray, List.getElem_cons_succ, List.getElem_cons_zero]
          go_simp
          refine (specBinFree_any (binAt L k) _ ⟨by omega, by omega⟩ ⟨by omega, by omega⟩).mono ?_
          rintro e w3 ⟨rfl, hb3⟩
          go_wp2_with fail
          refine hK.out _ _ ?_ (fun hHeld => ?_)
          · (try dsimp only); first | (go_split_ands; exact ⟨by assumption, by assumption, by assumption, by assumption, by assumption⟩) | (go_split_ands; refine ⟨?_, ?_, ?_, ?_, ?_⟩ <;> (rw [hb3.cell (by simp; omega)]; assumption)) | (go_split_ands; refine ⟨?_, ?_, ?_, ?_, ?_⟩ <;> (refine (World.cell?_of_block (hg6.block _ (by simp; omega) Hbp.out)).trans ?_; assumption)) | go_keep
          clear hK K
          try simp only [Act.put, List.setIfInBounds_toArray, List.set_cons_zero, List.set_cons_succ, List.getElem_toArray, List.getElem_cons_succ, List.getElem_cons_zero]
          refine wpAnyH_take (i := 4) (v := ?_) rfl (by kernel_rfl) (by kernel_rfl) (by kernel_rfl) (fun _ _ _ h => h) (Or.inl ⟨by rfl, ?_⟩) (by assumption) ?_
          rotate_left
          · (intro w hSw; (try dsimp only at hSw); go_simp) <;> with_reducible rfl
          try simp only [Act.put, List.setIfInBounds_toArray, List.set_cons_zero, List.set_cons_succ, List.getElem_toArray, List.getElem_cons_succ, List.getElem_cons_zero]
          refine wpAnyH_done (by kernel_rfl) ?_ _
          have b3 := (Below.drew bb).trans (hb3.mono bb.size)
          have O3 := Lib.hid (own_below (Ob.out.drew) hb3)
          have P3 := Lib.hid (own_below (Pb.out.drew) hb3)
          clear e0 e1 e2 e3 e4
          go_wp2
          go_roundw
          case rel => exact ⟨k + 1, ns, ps, Ao, co, Ap, cp, by omega, by rw [E.out.1, ← Hns.out], by rw [E.out.2, ← Hps.out], by omega, by omega, by go_num, rfl, rfl, O3.out, P3.out, b3, Hne.out⟩
          case measure => simp [intOf]; omega
      · have hk2 : L.take k = L := List.take_of_length_le (by omega)
        have H1 := Lib.hid (show orderList L = (ns, ps, 0) by rw [H.out, Hns.out, Hps.out, hk2])
        clear hk2
        go_wp2
        go_ret3
        exact RetSSC.ok H1.out Ho.out rfl rfl Hp.out rfl rfl hs2 hs2 Hne.out (hb2.trans (hb.mono hs2))

end Go.Proofs.Ytngphnfbfednnaa
