/- The walks of MissingPieces. Printed by gen_stocke.py. -/
import Derived.Test.YtngphnfbfednnaaResAll
namespace Go.Proofs.Ytngphnfbfednnaa
open Go.RowKit

/-- The slice u (of n elements) lies in another block than v. -/
def Apart (u v : Value) (n : Nat) (w : World) : Prop := 0 < n → ∀ g, u.ownBlock = some g → g < w.heap.size ∧ v.ownBlock ≠ some g
theorem Sl.blk {w : World} {size n : Nat} {v : Value} {xs : List Value} (h : Sl w size v n xs) (hn : 0 < n) : ∀ g, v.ownBlock = some g → g < w.heap.size := by
  obtain ⟨A, c, rfl, _, _, _, hr⟩ := h
  obtain ⟨g, o, rfl, hg, _⟩ := hr hn
  intro k hk
  simp [Value.ownBlock] at hk
  omega
theorem Apart.start {w wo : World} {size n : Nat} {v : Value} {xs : List Value} {o : Obj} (h : Sl w size v n xs) (hs : w.heap.size ≤ wo.heap.size) : Apart v (.slice (some ⟨wo.heap.size, 0, none⟩) 0 0) n (wo.alloc o) := by
  intro hn g hg
  have := h.blk hn g hg
  refine ⟨by simp; omega, ?_⟩
  simp [Value.ownBlock]; omega
theorem Apart.mono {u v : Value} {n : Nat} {w w' : World} (h : Apart u v n w) (hs : w.heap.size ≤ w'.heap.size) : Apart u v n w' := fun hn g hg => ⟨Nat.lt_of_lt_of_le (h hn g hg).1 hs, (h hn g hg).2⟩
theorem Apart.append {u v v' : Value} {n : Nat} {w w' : World} (h : Apart u v n w) (hor : v'.ownBlock = v.ownBlock ∨ v'.ownBlock = some w.heap.size) (hs : w.heap.size ≤ w'.heap.size) : Apart u v' n w' := by
  intro hn g hg
  obtain ⟨h1, h2⟩ := h hn g hg
  refine ⟨by omega, ?_⟩
  rcases hor with e | e
  · rw [e]; exact h2
  · rw [e]; simp; omega
theorem Apart.fresh {u v : Value} {n m base size size' : Nat} {e e' : TypeId} {xs ys : List Value} {w w' : World} (h : w'.ownsRow w.heap.size e size u n xs) (h' : w.ownsRow base e' size' v m ys) : Apart u v n w' := by
  intro _ g hg
  have h1 := World.ownsRow.lt h g hg
  refine ⟨h1.2, fun hv => ?_⟩
  have h2 := World.ownsRow.lt h' g hv
  omega
theorem Sl.grown_apart {w w' : World} {size n : Nat} {v u : Value} {xs : List Value} (h : Sl w size v n xs) (hg : w.grownBy w' u.ownBlock) (ha : Apart v u n w) : Sl w' size v n xs := by
  rcases Nat.eq_zero_or_pos n with h0 | h0
  · subst h0
    obtain ⟨A, c, rfl, h1, h2, h3, _⟩ := h
    exact ⟨A, c, rfl, h1, h2, h3, fun hn => absurd hn (by omega)⟩
  · exact h.grown hg (fun g hu hv => (ha h0 g hv).2 hu)

set_option maxHeartbeats 4000000 in
theorem implMissingPieces_any (w : World) (L : List Bin) (v : Value) (cs : List ByteArray) (u : Value) (hv : Sl w 5 v L.length (binRow L)) (hf : binFit L) (hn : L.length ≤ 4194304) (hu : Sl w 1 u cs.length (strsRow cs)) (hg : strsFit cs) (hm : cs.length ≤ 4194304) :
    Calls Try.prog 37 #[v, u] w (RetSC w.heap.size 9 1 strsRow (missing L cs) w) := by
  have Hv := Lib.hid hv
  have Hu := Lib.hid hu
  have Hf := Lib.hid hf
  have Hg := Lib.hid hg
  clear hf hg
  cases h1 : isStock L
  · have H := Lib.hid (show missing L cs = ([], 1) by simp [missing, h1])
    clear hv hu
    go_enter Try.func37, Try.ntmps37
    go_wp2_with fail
    refine (implIsStock_any w L v Hv.out Hf.out hn).mono ?_
    rintro e w2 ⟨rfl, hb2⟩
    rw [h1]
    go_wp2
    go_ret2
    exact RetSC.err H.out rfl hb2
  · obtain ⟨A', c', rfl, hl', hc', hr'⟩ := hu
    have Hr' := Lib.hid hr'
    unfold maxLen at hc'
    clear hr'
    by_cases h60 : 60 < cs.length
    · have H := Lib.hid (show missing L cs = ([], 2) by simp [missing, h1, h60])
      clear hv
      go_enter Try.func37, Try.ntmps37
      go_wp2_with fail
      refine (implIsStock_any w L v Hv.out Hf.out hn).mono ?_
      rintro e w2 ⟨rfl, hb2⟩
      rw [h1]
      go_wp2
      go_ret2
      exact RetSC.err H.out rfl hb2
    · have hL20 := isStock_le h1
      obtain ⟨i0, hi, hz0, hz1, hz2⟩ := info_parts Try.infoBin
      obtain ⟨A, c, rfl, hl, hc, hr⟩ := hv
      unfold maxLen at hc
      have Hr := Lib.hid hr
      clear hr
      go_enter Try.func37, Try.ntmps37
      go_wp2_with fail
      refine (implIsStock_any w L _ Hv.out Hf.out hn).mono ?_
      rintro e wo ⟨rfl, hb⟩
      rw [h1]
      have hsz := hb.size
      have H0 := Lib.hid (show missing L cs = (missGo L cs, 0) by simp [missing, h1, h60])
      have Hro := Lib.hid (Hr.out.below' hb)
      obtain ⟨j0, hj, hy0, hy1, hy2⟩ := info_parts Try.info_strs
      go_wp2_with (at_builtin; refine wpList_append_sl _ rfl (.tmp 17) (.tmp 18) _ rfl wo.heap.size 58 i0 _ 5 48 Try.underlying25 hi hz0 hz1 hz2 rfl (by omega) (.slice (some ⟨wo.heap.size, 0, none⟩) 0 0) 0 [] rfl (own_empty _ _ _ (Nat.le_refl _)) A L.length c (binRow L) rfl (Hro.out.alloc' _) (binRow_one L) (by unfold maxLen; omega) (by omega) (by simp) ?_; intro A9 c9 w9 ho9 hg9 hor9; simp only [Nat.zero_add, List.nil_append] at ho9 ⊢; have q9 : Below wo.heap.size wo w9 := ((Below.refl _ _).alloc (Nat.le_refl _) _).grown hg9 (by simp) (fun k hk => by simp [Value.ownBlock] at hk; omega))
      have hs9 := q9.size
      have O9 := Lib.hid ho9
      clear hor9 hg9 ho9
      go_loopw [7, 22] (fun s i wr => ∃ (k : Nat) (M : List Bin) (ns : List ByteArray) (Ao : Option Addr) (co : Nat), k ≤ cs.length ∧ i = .int .i64 k ∧ s = .slice Ao ns.length co ∧ MissInv L cs k M ns ∧ wr.ownsRow wo.heap.size 58 5 (.slice A9 L.length c9) L.length (binRow M) ∧ wr.ownsRow w9.heap.size 9 1 (.slice Ao ns.length co) ns.length (strsRow ns) ∧ Below wo.heap.size wo wr ∧ w9.heap.size ≤ wr.heap.size) (fun _ i _ => cs.length - (intOf i).toNat)
      case atStart => exact ⟨0, L, [], none, 0, Nat.zero_le _, rfl, rfl, MissInv.start cs h1, O9.out, World.ownsRow_nil _ _ _ _, q9, Nat.le_refl _⟩
      case round =>
        obtain ⟨k, M, ns, Ao, co, hk, rfl, rfl, hI, ho, hs, hbi, hz9⟩ := hrel
        have HI := Lib.hid hI
        have Ho := Lib.hid ho
        have Hs := Lib.hid hs
        have hMl := hI.1
        have hnl := hI.2.2.1
        have HMl := Lib.hid hMl
        have hszi := hbi.size
        have T9 := Lib.hid (World.ownsRow.lt O9.out)
        clear hI ho hs hMl
        have hbw := hb.trans (hbi.mono hsz)
        by_cases hlt : k < cs.length
        · obtain ⟨g', o', rfl, hg', c0⟩ := (Hr'.out.below hbw (Nat.le_refl _)).strs hlt
          have i1 : (0 : Int) ≤ (k : Int) := Int.natCast_nonneg _
          have i2 : (k : Int) < (cs.length : Int) := by omega
          cases hx : binIx M (strsAt cs k) with
          | none =>
            have Hx := Lib.hid hx
            go_wp2_with fail
            refine (implFind_any wr M _ (strsAt cs k) (Sl.of_own (by rw [HMl.out]; exact Ho.out)) (by have := HMl.out; omega)).mono ?_
            rintro e w3 ⟨rfl, hb3⟩
            rw [hx]
            rw [ixI]
            have b3 := hbi.trans (hb3.mono hszi)
            have hs3 := b3.size
            have hs4 := hb3.size
            have Hs3 := Lib.hid (own_below Hs.out hb3)
            have Ho3 := Lib.hid (own_below Ho.out hb3)
            clear hx
            go_wp2_with fail
            refine wp_region_held_drew (S := (fun w' => w'.heap.size = w3.heap.size)) (by kernel_rfl) ?_ (fun hHeld => ?_)
            · (try dsimp only); first | rfl | go_keep
            refine wpAnyH_take (i := 0) (v := ?_) rfl (by kernel_rfl) (by kernel_rfl) (by kernel_rfl) (fun _ _ _ h => h) (Or.inl ⟨by rfl, ?_⟩) (by assumption) ?_
            rotate_left
            · (intro w hSw; (try dsimp only at hSw); go_simp) <;> with_reducible rfl
            try simp only [Act.put, List.setIfInBounds_toArray, List.set_cons_zero, List.set_cons_succ, List.getElem_toArray, List.getElem_cons_succ, List.getElem_cons_zero]
            refine wpAnyH_take (i := 1) (v := ?_) rfl (by kernel_rfl) (by kernel_rfl) (by kernel_rfl) (fun _ _ _ h => h) (Or.inl ⟨by rfl, ?_⟩) (by assumption) ?_
            rotate_left
            · (intro w hSw; (try dsimp only at hSw); go_simp) <;> with_reducible rfl
            try simp only [Act.put, List.setIfInBounds_toArray, List.set_cons_zero, List.set_cons_succ, List.getElem_toArray, List.getElem_cons_succ, List.getElem_cons_zero]
            refine wpAnyH_take (i := 2) (v := ?_) rfl (by kernel_rfl) (by kernel_rfl) (by kernel_rfl) (fun _ _ _ h => h) (Or.inl ⟨by rfl, ?_⟩) (by assumption) ?_
            rotate_left
            · (intro w hSw; (try dsimp only at hSw); go_simp) <;> with_reducible rfl
            try simp only [Act.put, List.setIfInBounds_toArray, List.set_cons_zero, List.set_cons_succ, List.getElem_toArray, List.getElem_cons_succ, List.getElem_cons_zero]
            refine wpAnyH_take (i := 3) (v := undef) rfl (by kernel_rfl) (by kernel_rfl) (by kernel_rfl) (fun _ _ _ h => h) (Or.inr ⟨by rfl, rfl⟩) (by assumption) ?_
            try simp only [Act.put, List.setIfInBounds_toArray, List.set_cons_zero, List.set_cons_succ, List.getElem_toArray, List.getElem_cons_succ, List.getElem_cons_zero]
            refine wpAnyH_take (i := 4) (v := undef) rfl (by kernel_rfl) (by kernel_rfl) (by kernel_rfl) (fun _ _ _ h => h) (Or.inr ⟨by rfl, rfl⟩) (by assumption) ?_
            try simp only [Act.put, List.setIfInBounds_toArray, List.set_cons_zero, List.set_cons_succ, List.getElem_toArray, List.getElem_cons_succ, List.getElem_cons_zero]
            refine wpAnyH_take (i := 5) (v := undef) rfl (by kernel_rfl) (by kernel_rfl) (by kernel_rfl) (fun _ _ _ h => h) (Or.inr ⟨by rfl, rfl⟩) (by assumption) ?_
            try simp only [Act.put, List.setIfInBounds_toArray, List.set_cons_zero, List.set_cons_succ, List.getElem_toArray, List.getElem_cons_succ, List.getElem_cons_zero]
            refine wpAnyH_take (i := 6) (v := undef) rfl (by kernel_rfl) (by kernel_rfl) (by kernel_rfl) (fun _ _ _ h => h) (Or.inr ⟨by rfl, rfl⟩) (by assumption) ?_
            try simp only [Act.put, List.setIfInBounds_toArray, List.set_cons_zero, List.set_cons_succ, List.getElem_toArray, List.getElem_cons_succ, List.getElem_cons_zero]
            refine wpAnyH_take (i := 7) (v := undef) rfl (by kernel_rfl) (by kernel_rfl) (by kernel_rfl) (fun _ _ _ h => h) (Or.inr ⟨by rfl, rfl⟩) (by assumption) ?_
            try simp only [Act.put, List.setIfInBounds_toArray, List.set_cons_zero, List.set_cons_succ, List.getElem_toArray, List.getElem_cons_succ, List.getElem_cons_zero]
            refine wpAnyH_take (i := 8) (v := undef) rfl (by kernel_rfl) (by kernel_rfl) (by kernel_rfl) (fun _ _ _ h => h) (Or.inr ⟨by rfl, rfl⟩) (by assumption) ?_
            try simp only [Act.put, List.setIfInBounds_toArray, List.set_cons_zero, List.set_cons_succ, List.getElem_toArray, List.getElem_cons_succ, List.getElem_cons_zero]
            refine wpAnyH_take (i := 9) (v := undef) rfl (by kernel_rfl) (by kernel_rfl) (by kernel_rfl) (fun _ _ _ h => h) (Or.inr ⟨by rfl, rfl⟩) (by assumption) ?_
            try simp only [Act.put, List.setIfInBounds_toArray, List.set_cons_zero, List.set_cons_succ, List.getElem_toArray, List.getElem_cons_succ, List.getElem_cons_zero]
            refine wpAnyH_take (i := 10) (v := undef) rfl (by kernel_rfl) (by kernel_rfl) (by kernel_rfl) (fun _ _ _ h => h) (Or.inr ⟨by rfl, rfl⟩) (by assumption) ?_
            try simp only [Act.put, List.setIfInBounds_toArray, List.set_cons_zero, List.set_cons_succ, List.getElem_toArray, List.getElem_cons_succ, List.getElem_cons_zero]
            refine wpAnyH_take (i := 11) (v := undef) rfl (by kernel_rfl) (by kernel_rfl) (by kernel_rfl) (fun _ _ _ h => h) (Or.inr ⟨by rfl, rfl⟩) (by assumption) ?_
            try simp only [Act.put, List.setIfInBounds_toArray, List.set_cons_zero, List.set_cons_succ, List.getElem_toArray, List.getElem_cons_succ, List.getElem_cons_zero]
            refine wpAnyH_take (i := 12) (v := undef) rfl (by kernel_rfl) (by kernel_rfl) (by kernel_rfl) (fun _ _ _ h => h) (Or.inr ⟨by rfl, rfl⟩) (by assumption) ?_
            try simp only [Act.put, List.setIfInBounds_toArray, List.set_cons_zero, List.set_cons_succ, List.getElem_toArray, List.getElem_cons_succ, List.getElem_cons_zero]
            refine wpAnyH_take (i := 13) (v := undef) rfl (by kernel_rfl) (by kernel_rfl) (by kernel_rfl) (fun _ _ _ h => h) (Or.inr ⟨by rfl, rfl⟩) (by assumption) ?_
            try simp only [Act.put, List.setIfInBounds_toArray, List.set_cons_zero, List.set_cons_succ, List.getElem_toArray, List.getElem_cons_succ, List.getElem_cons_zero]
            refine wpAnyH_take (i := 14) (v := ?_) rfl (by kernel_rfl) (by kernel_rfl) (by kernel_rfl) (fun _ _ _ h => h) (Or.inl ⟨by rfl, ?_⟩) (by assumption) ?_
            rotate_left
            · (intro w hSw; (try dsimp only at hSw); go_simp) <;> with_reducible rfl
            try simp only [Act.put, List.setIfInBounds_toArray, List.set_cons_zero, List.set_cons_succ, List.getElem_toArray, List.getElem_cons_succ, List.getElem_cons_zero]
            refine wpAnyH_done (by kernel_rfl) ?_ _
            go_wp2_with (at_builtin; refine wpList_append_sl _ rfl (.tmp 44) (.tmp 46) _ rfl w9.heap.size 9 j0 _ 1 16 Try.underlying38 hj hy0 hy1 hy2 rfl (by omega) _ ns.length (strsRow ns) rfl ((own_drewN Hs3.out 1).alloc _) (some ⟨w3.heap.size, 0, none⟩) 1 1 [.string (strsAt cs k)] rfl (Rd.of_block (cs := #[.string (strsAt cs k)]) (heap_alloc_new _ _) rfl) (by intro x hx; simp at hx; subst hx; rfl) (by unfold maxLen; omega) (by omega) (by simp; omega) ?_; intro A8 c8 w8 ho8 hg8 hor8)
            have b8 : Below wo.heap.size wo w8 := ((b3.drew).alloc (by simp; omega) _).grown hg8 (by simp; omega) (fun q hq => by have := (World.ownsRow.lt Hs3.out q hq).1; omega)
            have z8 : w9.heap.size ≤ w8.heap.size := by have := hg8.size; simp at this; omega
            have P8 := Lib.hid (World.ownsRow.kept ((Ho3.out.drew).alloc _) hg8 (ne_of_lt T9.out (World.ownsRow.lt Hs3.out) (Nat.le_refl _)))
            have O8 := Lib.hid ho8
            clear ho8 hg8 hor8
            go_roundw
            case rel =>
              refine ⟨k + 1, M, ns ++ [strsAt cs k], A8, c8, by omega, by go_num, by rw [List.length_append]; rfl, HI.out.none_ hlt Hx.out, P8.out, ?_, b8, z8⟩
              rw [List.length_append, strsRow_append]; exact O8.out
            case measure => simp [intOf]; omega
          | some i =>
            have hiM := (binIx_some.1 hx).1
            obtain ⟨_, ⟨a1, a2⟩, ⟨r1, r2⟩, _⟩ := stock_bin HI.out.2.1 hiM
            have r3 : (binAt M i).reserved ≤ 100000 := by omega
            obtain ⟨g, cc, hv9, _, hg9lt⟩ := own_form Ho.out (by have := HMl.out; omega)
            injection hv9 with hA9 hn9 hc9'
            subst hA9
            obtain ⟨_, hl9, hc9⟩ := own_caps Ho.out
            unfold maxLen at hc9
            clear hn9 hc9' cc
            have i3 : (0 : Int) ≤ (i : Int) := Int.natCast_nonneg _
            have i4 : (i : Int) < (L.length : Int) := by have := HMl.out; omega
            have t0 : decide ((i : Int) < 0) = false := by simp
            have Hx := Lib.hid hx
            go_wp2_with fail
            refine (implFind_any wr M _ (strsAt cs k) (Sl.of_own (by rw [HMl.out]; exact Ho.out)) (by have := HMl.out; omega)).mono ?_
            rintro e w3 ⟨rfl, hb3⟩
            rw [hx]
            unfold ixI
            have b3 := hbi.trans (hb3.mono hszi)
            have hs3 := b3.size
            have hs4 := hb3.size
            have Hs3 := Lib.hid (own_below Hs.out hb3)
            have Ho3 := Lib.hid (own_below Ho.out hb3)
            obtain ⟨e0, e1, e2, e3, e4⟩ := binRow_at M i hiM
            have d1 := (Ho3.out.cellAt (i * 5 + 1) (by have := HMl.out; omega)).trans e1
            have f1 := Ho3.out.frozenAt (i * 5 + 1)
            have d2 := (Ho3.out.cellAt (i * 5 + 2) (by have := HMl.out; omega)).trans e2
            have f2 := Ho3.out.frozenAt (i * 5 + 2)
            clear e0 e1 e2 e3 e4 hx
            by_cases heq : (binAt M i).reserved = (binAt M i).amount
            · have t1 : ((binAt M i).reserved == (binAt M i).amount) = true := by simpa using heq
              have HE := Lib.hid heq
              clear heq
              go_wp2_with fail
              refine wp_region_held_drew (S := (fun w' => w'.cell? ⟨g, i * 5 + 1, none⟩ = some (.int .i64 (binAt M i).amount) ∧ w'.cell? ⟨g, i * 5 + 2, none⟩ = some (.int .i64 (binAt M i).reserved))) (by kernel_rfl) ?_ (fun hHeld => ?_)
              · (try dsimp only); first | (go_split_ands; exact ⟨by assumption, by assumption⟩) | go_keep
              refine wpAnyH_take (i := 0) (v := ?_) rfl (by kernel_rfl) (by kernel_rfl) (by kernel_rfl) (fun _ _ _ h => h) (Or.inl ⟨by rfl, ?_⟩) (by assumption) ?_
              rotate_left
              · (intro w hSw; (try dsimp only at hSw); go_simp) <;> with_reducible rfl
              try simp only [Act.put, List.setIfInBounds_toArray, List.set_cons_zero, List.set_cons_succ, List.getElem_toArray, List.getElem_cons_succ, List.getElem_cons_zero]
              refine wpAnyH_take (i := 1) (v := ?_) rfl (by kernel_rfl) (by kernel_rfl) (by kernel_rfl) (fun _ _ _ h => h) (Or.inl ⟨by rfl, ?_⟩) (by assumption) ?_
              rotate_left
              · (intro w hSw; (try dsimp only at hSw); go_simp) <;> with_reducible rfl
              try simp only [Act.put, List.setIfInBounds_toArray, List.set_cons_zero, List.set_cons_succ, List.getElem_toArray, List.getElem_cons_succ, List.getElem_cons_zero]
              refine wpAnyH_take (i := 2) (v := ?_) rfl (by kernel_rfl) (by kernel_rfl) (by kernel_rfl) (fun _ _ _ h => h) (Or.inl ⟨by rfl, ?_⟩) (by assumption) ?_
              rotate_left
              · (intro w hSw; (try dsimp only at hSw); go_simp) <;> with_reducible rfl
              try simp only [Act.put, List.setIfInBounds_toArray, List.set_cons_zero, List.set_cons_succ, List.getElem_toArray, List.getElem_cons_succ, List.getElem_cons_zero]
              refine wpAnyH_take (i := 3) (v := ?_) rfl (by kernel_rfl) (by kernel_rfl) (by kernel_rfl) (fun _ _ _ h => h) (Or.inl ⟨by rfl, ?_⟩) (by assumption) ?_
              rotate_left
              · (intro w hSw; (try dsimp only at hSw); go_simp) <;> with_reducible rfl
              try simp only [Act.put, List.setIfInBounds_toArray, List.set_cons_zero, List.set_cons_succ, List.getElem_toArray, List.getElem_cons_succ, List.getElem_cons_zero]
              refine wpAnyH_take (i := 4) (v := ?_) rfl (by kernel_rfl) (by kernel_rfl) (by kernel_rfl) (fun _ _ _ h => h) (Or.inl ⟨by rfl, ?_⟩) (by assumption) ?_
              rotate_left
              · (intro w hSw; (try dsimp only at hSw); go_simp) <;> with_reducible rfl
              try simp only [Act.put, List.setIfInBounds_toArray, List.set_cons_zero, List.set_cons_succ, List.getElem_toArray, List.getElem_cons_succ, List.getElem_cons_zero]
              refine wpAnyH_take (i := 5) (v := ?_) rfl (by kernel_rfl) (by kernel_rfl) (by kernel_rfl) (fun _ _ _ h => h) (Or.inl ⟨by rfl, ?_⟩) (by assumption) ?_
              rotate_left
              · (intro w hSw; (try dsimp only at hSw); go_simp) <;> with_reducible rfl
              try simp only [Act.put, List.setIfInBounds_toArray, List.set_cons_zero, List.set_cons_succ, List.getElem_toArray, List.getElem_cons_succ, List.getElem_cons_zero]
              refine wpAnyH_take (i := 6) (v := ?_) rfl (by kernel_rfl) (by kernel_rfl) (by kernel_rfl) (fun _ _ _ h => h) (Or.inl ⟨by rfl, ?_⟩) (by assumption) ?_
              rotate_left
              · (intro w hSw; (try dsimp only at hSw); go_simp) <;> with_reducible rfl
              try simp only [Act.put, List.setIfInBounds_toArray, List.set_cons_zero, List.set_cons_succ, List.getElem_toArray, List.getElem_cons_succ, List.getElem_cons_zero]
              refine wpAnyH_take (i := 7) (v := ?_) rfl (by kernel_rfl) (by kernel_rfl) (by kernel_rfl) (fun _ _ _ h => h) (Or.inl ⟨by rfl, ?_⟩) (by assumption) ?_
              rotate_left
              · (intro w hSw; (try dsimp only at hSw); go_simp) <;> with_reducible rfl
              try simp only [Act.put, List.setIfInBounds_toArray, List.set_cons_zero, List.set_cons_succ, List.getElem_toArray, List.getElem_cons_succ, List.getElem_cons_zero]
              refine wpAnyH_take (i := 8) (v := ?_) rfl (by kernel_rfl) (by kernel_rfl) (by kernel_rfl) (fun _ _ _ h => h) (Or.inl ⟨by rfl, ?_⟩) (by assumption) ?_
              rotate_left
              · (intro w hSw; (try dsimp only at hSw); go_simp) <;> with_reducible rfl
              try simp only [Act.put, List.setIfInBounds_toArray, List.set_cons_zero, List.set_cons_succ, List.getElem_toArray, List.getElem_cons_succ, List.getElem_cons_zero]
              refine wpAnyH_take (i := 9) (v := ?_) rfl (by kernel_rfl) (by kernel_rfl) (by kernel_rfl) (fun _ _ _ h => h) (Or.inl ⟨by rfl, ?_⟩) (by assumption) ?_
              rotate_left
              · (intro w hSw; (try dsimp only at hSw); go_simp) <;> with_reducible rfl
              try simp only [Act.put, List.setIfInBounds_toArray, List.set_cons_zero, List.set_cons_succ, List.getElem_toArray, List.getElem_cons_succ, List.getElem_cons_zero]
              refine wpAnyH_take (i := 10) (v := ?_) rfl (by kernel_rfl) (by kernel_rfl) (by kernel_rfl) (fun _ _ _ h => h) (Or.inl ⟨by rfl, ?_⟩) (by assumption) ?_
              rotate_left
              · (intro w hSw; (try dsimp only at hSw); go_simp) <;> with_reducible rfl
              try simp only [Act.put, List.setIfInBounds_toArray, List.set_cons_zero, List.set_cons_succ, List.getElem_toArray, List.getElem_cons_succ, List.getElem_cons_zero]
              refine wpAnyH_take (i := 11) (v := ?_) rfl (by kernel_rfl) (by kernel_rfl) (by kernel_rfl) (fun _ _ _ h => h) (Or.inl ⟨by rfl, ?_⟩) (by assumption) ?_
              rotate_left
              · (intro w hSw; (try dsimp only at hSw); go_simp) <;> with_reducible rfl
              try simp only [Act.put, List.setIfInBounds_toArray, List.set_cons_zero, List.set_cons_succ, List.getElem_toArray, List.getElem_cons_succ, List.getElem_cons_zero]
              refine wpAnyH_take (i := 12) (v := ?_) rfl (by kernel_rfl) (by kernel_rfl) (by kernel_rfl) (fun _ _ _ h => h) (Or.inl ⟨by rfl, ?_⟩) (by assumption) ?_
              rotate_left
              · (intro w hSw; (try dsimp only at hSw); go_simp) <;> with_reducible rfl
              try simp only [Act.put, List.setIfInBounds_toArray, List.set_cons_zero, List.set_cons_succ, List.getElem_toArray, List.getElem_cons_succ, List.getElem_cons_zero]
              refine wpAnyH_take (i := 13) (v := ?_) rfl (by kernel_rfl) (by kernel_rfl) (by kernel_rfl) (fun _ _ _ h => h) (Or.inl ⟨by rfl, ?_⟩) (by assumption) ?_
              rotate_left
              · (intro w hSw; (try dsimp only at hSw); go_simp) <;> with_reducible rfl
              try simp only [Act.put, List.setIfInBounds_toArray, List.set_cons_zero, List.set_cons_succ, List.getElem_toArray, List.getElem_cons_succ, List.getElem_cons_zero]
              refine wpAnyH_take (i := 14) (v := ?_) rfl (by kernel_rfl) (by kernel_rfl) (by kernel_rfl) (fun _ _ _ h => h) (Or.inl ⟨by rfl, ?_⟩) (by assumption) ?_
              rotate_left
              · (intro w hSw; (try dsimp only at hSw); go_simp) <;> with_reducible rfl
              try simp only [Act.put, List.setIfInBounds_toArray, List.set_cons_zero, List.set_cons_succ, List.getElem_toArray, List.getElem_cons_succ, List.getElem_cons_zero]
              refine wpAnyH_done (by kernel_rfl) ?_ _
              go_wp2_with (at_builtin; refine wpList_append_sl _ rfl (.tmp 44) (.tmp 46) _ rfl w9.heap.size 9 j0 _ 1 16 Try.underlying38 hj hy0 hy1 hy2 rfl (by omega) _ ns.length (strsRow ns) rfl ((own_drewN Hs3.out 1).alloc _) (some ⟨w3.heap.size, 0, none⟩) 1 1 [.string (strsAt cs k)] rfl (Rd.of_block (cs := #[.string (strsAt cs k)]) (heap_alloc_new _ _) rfl) (by intro x hx; simp at hx; subst hx; rfl) (by unfold maxLen; omega) (by omega) (by simp; omega) ?_; intro A8 c8 w8 ho8 hg8 hor8)
              have b8 : Below wo.heap.size wo w8 := ((b3.drew).alloc (by simp; omega) _).grown hg8 (by simp; omega) (fun q hq => by have := (World.ownsRow.lt Hs3.out q hq).1; omega)
              have z8 : w9.heap.size ≤ w8.heap.size := by have := hg8.size; simp at this; omega
              have P8 := Lib.hid (World.ownsRow.kept ((Ho3.out.drew).alloc _) hg8 (ne_of_lt T9.out (World.ownsRow.lt Hs3.out) (Nat.le_refl _)))
              have O8 := Lib.hid ho8
              clear ho8 hg8 hor8
              go_roundw
              case rel =>
                refine ⟨k + 1, M, ns ++ [strsAt cs k], A8, c8, by omega, by go_num, by rw [List.length_append]; rfl, HI.out.full hlt Hx.out HE.out, P8.out, ?_, b8, z8⟩
                rw [List.length_append, strsRow_append]; exact O8.out
              case measure => simp [intOf]; omega
            · have t1 : ((binAt M i).reserved == (binAt M i).amount) = false := by simpa using heq
              have HE := Lib.hid heq
              clear heq
              go_wp2_with fail
              refine wp_region_held_drew (S := (fun w' => w'.cell? ⟨g, i * 5 + 1, none⟩ = some (.int .i64 (binAt M i).amount) ∧ w'.cell? ⟨g, i * 5 + 2, none⟩ = some (.int .i64 (binAt M i).reserved))) (by kernel_rfl) ?_ (fun hHeld => ?_)
              · (try dsimp only); first | (go_split_ands; exact ⟨by assumption, by assumption⟩) | go_keep
              refine wpAnyH_take (i := 0) (v := ?_) rfl (by kernel_rfl) (by kernel_rfl) (by kernel_rfl) (fun _ _ _ h => h) (Or.inl ⟨by rfl, ?_⟩) (by assumption) ?_
              rotate_left
              · (intro w hSw; (try dsimp only at hSw); go_simp) <;> with_reducible rfl
              try simp only [Act.put, List.setIfInBounds_toArray, List.set_cons_zero, List.set_cons_succ, List.getElem_toArray, List.getElem_cons_succ, List.getElem_cons_zero]
              refine wpAnyH_take (i := 1) (v := ?_) rfl (by kernel_rfl) (by kernel_rfl) (by kernel_rfl) (fun _ _ _ h => h) (Or.inl ⟨by rfl, ?_⟩) (by assumption) ?_
              rotate_left
              · (intro w hSw; (try dsimp only at hSw); go_simp) <;> with_reducible rfl
              try simp only [Act.put, List.setIfInBounds_toArray, List.set_cons_zero, List.set_cons_succ, List.getElem_toArray, List.getElem_cons_succ, List.getElem_cons_zero]
              refine wpAnyH_take (i := 2) (v := ?_) rfl (by kernel_rfl) (by kernel_rfl) (by kernel_rfl) (fun _ _ _ h => h) (Or.inl ⟨by rfl, ?_⟩) (by assumption) ?_
              rotate_left
              · (intro w hSw; (try dsimp only at hSw); go_simp) <;> with_reducible rfl
              try simp only [Act.put, List.setIfInBounds_toArray, List.set_cons_zero, List.set_cons_succ, List.getElem_toArray, List.getElem_cons_succ, List.getElem_cons_zero]
              refine wpAnyH_take (i := 3) (v := ?_) rfl (by kernel_rfl) (by kernel_rfl) (by kernel_rfl) (fun _ _ _ h => h) (Or.inl ⟨by rfl, ?_⟩) (by assumption) ?_
              rotate_left
              · (intro w hSw; (try dsimp only at hSw); go_simp) <;> with_reducible rfl
              try simp only [Act.put, List.setIfInBounds_toArray, List.set_cons_zero, List.set_cons_succ, List.getElem_toArray, List.getElem_cons_succ, List.getElem_cons_zero]
              refine wpAnyH_take (i := 4) (v := ?_) rfl (by kernel_rfl) (by kernel_rfl) (by kernel_rfl) (fun _ _ _ h => h) (Or.inl ⟨by rfl, ?_⟩) (by assumption) ?_
              rotate_left
              · (intro w hSw; (try dsimp only at hSw); go_simp) <;> with_reducible rfl
              try simp only [Act.put, List.setIfInBounds_toArray, List.set_cons_zero, List.set_cons_succ, List.getElem_toArray, List.getElem_cons_succ, List.getElem_cons_zero]
              refine wpAnyH_take (i := 5) (v := ?_) rfl (by kernel_rfl) (by kernel_rfl) (by kernel_rfl) (fun _ _ _ h => h) (Or.inl ⟨by rfl, ?_⟩) (by assumption) ?_
              rotate_left
              · (intro w hSw; (try dsimp only at hSw); go_simp) <;> with_reducible rfl
              try simp only [Act.put, List.setIfInBounds_toArray, List.set_cons_zero, List.set_cons_succ, List.getElem_toArray, List.getElem_cons_succ, List.getElem_cons_zero]
              refine wpAnyH_take (i := 6) (v := ?_) rfl (by kernel_rfl) (by kernel_rfl) (by kernel_rfl) (fun _ _ _ h => h) (Or.inl ⟨by rfl, ?_⟩) (by assumption) ?_
              rotate_left
              · (intro w hSw; (try dsimp only at hSw); go_simp) <;> with_reducible rfl
              try simp only [Act.put, List.setIfInBounds_toArray, List.set_cons_zero, List.set_cons_succ, List.getElem_toArray, List.getElem_cons_succ, List.getElem_cons_zero]
              refine wpAnyH_take (i := 7) (v := ?_) rfl (by kernel_rfl) (by kernel_rfl) (by kernel_rfl) (fun _ _ _ h => h) (Or.inl ⟨by rfl, ?_⟩) (by assumption) ?_
              rotate_left
              · (intro w hSw; (try dsimp only at hSw); go_simp) <;> with_reducible rfl
              try simp only [Act.put, List.setIfInBounds_toArray, List.set_cons_zero, List.set_cons_succ, List.getElem_toArray, List.getElem_cons_succ, List.getElem_cons_zero]
              refine wpAnyH_take (i := 8) (v := ?_) rfl (by kernel_rfl) (by kernel_rfl) (by kernel_rfl) (fun _ _ _ h => h) (Or.inl ⟨by rfl, ?_⟩) (by assumption) ?_
              rotate_left
              · (intro w hSw; (try dsimp only at hSw); go_simp) <;> with_reducible rfl
              try simp only [Act.put, List.setIfInBounds_toArray, List.set_cons_zero, List.set_cons_succ, List.getElem_toArray, List.getElem_cons_succ, List.getElem_cons_zero]
              refine wpAnyH_take (i := 9) (v := ?_) rfl (by kernel_rfl) (by kernel_rfl) (by kernel_rfl) (fun _ _ _ h => h) (Or.inl ⟨by rfl, ?_⟩) (by assumption) ?_
              rotate_left
              · (intro w hSw; (try dsimp only at hSw); go_simp) <;> with_reducible rfl
              try simp only [Act.put, List.setIfInBounds_toArray, List.set_cons_zero, List.set_cons_succ, List.getElem_toArray, List.getElem_cons_succ, List.getElem_cons_zero]
              refine wpAnyH_take (i := 10) (v := ?_) rfl (by kernel_rfl) (by kernel_rfl) (by kernel_rfl) (fun _ _ _ h => h) (Or.inl ⟨by rfl, ?_⟩) (by assumption) ?_
              rotate_left
              · (intro w hSw; (try dsimp only at hSw); go_simp) <;> with_reducible rfl
              try simp only [Act.put, List.setIfInBounds_toArray, List.set_cons_zero, List.set_cons_succ, List.getElem_toArray, List.getElem_cons_succ, List.getElem_cons_zero]
              refine wpAnyH_take (i := 11) (v := ?_) rfl (by kernel_rfl) (by kernel_rfl) (by kernel_rfl) (fun _ _ _ h => h) (Or.inl ⟨by rfl, ?_⟩) (by assumption) ?_
              rotate_left
              · (intro w hSw; (try dsimp only at hSw); go_simp) <;> with_reducible rfl
              try simp only [Act.put, List.setIfInBounds_toArray, List.set_cons_zero, List.set_cons_succ, List.getElem_toArray, List.getElem_cons_succ, List.getElem_cons_zero]
              refine wpAnyH_take (i := 12) (v := ?_) rfl (by kernel_rfl) (by kernel_rfl) (by kernel_rfl) (fun _ _ _ h => h) (Or.inl ⟨by rfl, ?_⟩) (by assumption) ?_
              rotate_left
              · (intro w hSw; (try dsimp only at hSw); go_simp) <;> with_reducible rfl
              try simp only [Act.put, List.setIfInBounds_toArray, List.set_cons_zero, List.set_cons_succ, List.getElem_toArray, List.getElem_cons_succ, List.getElem_cons_zero]
              refine wpAnyH_take (i := 13) (v := ?_) rfl (by kernel_rfl) (by kernel_rfl) (by kernel_rfl) (fun _ _ _ h => h) (Or.inl ⟨by rfl, ?_⟩) (by assumption) ?_
              rotate_left
              · (intro w hSw; (try dsimp only at hSw); go_simp) <;> with_reducible rfl
              try simp only [Act.put, List.setIfInBounds_toArray, List.set_cons_zero, List.set_cons_succ, List.getElem_toArray, List.getElem_cons_succ, List.getElem_cons_zero]
              refine wpAnyH_take (i := 14) (v := ?_) rfl (by kernel_rfl) (by kernel_rfl) (by kernel_rfl) (fun _ _ _ h => h) (Or.inl ⟨by rfl, ?_⟩) (by assumption) ?_
              rotate_left
              · (intro w hSw; (try dsimp only at hSw); go_simp) <;> with_reducible rfl
              try simp only [Act.put, List.setIfInBounds_toArray, List.set_cons_zero, List.set_cons_succ, List.getElem_toArray, List.getElem_cons_succ, List.getElem_cons_zero]
              refine wpAnyH_done (by kernel_rfl) ?_ _
              have hgl := (T9.out g rfl)
              have P8 := Lib.hid (own_far (p := ⟨g, i * 5 + 2, none⟩) (Hs3.out.drew) (fun h => by have := (World.ownsRow.lt Hs3.out g h).1; omega) (.int .i64 ((binAt M i).reserved + 1)))
              go_wp2
              go_roundw
              case rel =>
                refine ⟨k + 1, _, ns, Ao, co, by omega, by go_num, rfl, HI.out.step hlt Hx.out HE.out, ?_, P8.out, (b3.drew).setCell hgl.1 _, by simp [World.setCell]; omega⟩
                rw [← binRow_set2 _ M i hiM]
                exact ((Ho3.out.drew).stored (i * 5 + 2) _).1
              case measure => simp [intOf]; omega
        · have hI := HI.out.last (show k = cs.length by omega)
          have H := Lib.hid (show missing L cs = (ns, 0) by rw [H0.out, hI])
          clear hI
          go_wp2
          go_ret2
          exact RetSC.ok H.out Hs.out rfl rfl (by omega) hbw

set_option maxHeartbeats 4000000 in
theorem specMissingPieces_any (w : World) (L : List Bin) (v : Value) (cs : List ByteArray) (u : Value) (hv : Sl w 5 v L.length (binRow L)) (hf : binFit L) (hn : L.length ≤ 4194304) (hu : Sl w 1 u cs.length (strsRow cs)) (hg : strsFit cs) (hm : cs.length ≤ 4194304) :
    Calls Try.prog 35 #[v, u] w (RetSC w.heap.size 9 1 strsRow (missing L cs) w) := by
  have Hv := Lib.hid hv
  have Hu := Lib.hid hu
  have Hf := Lib.hid hf
  have Hg := Lib.hid hg
  clear hf hg
  cases h1 : isStock L
  · have H := Lib.hid (show missing L cs = ([], 1) by simp [missing, h1])
    clear hv hu
    go_enter Try.func35, Try.ntmps35
    go_wp2_with fail
    refine (specIsStock_any w L v Hv.out Hf.out hn).mono ?_
    rintro e w2 ⟨rfl, hb2⟩
    rw [h1]
    go_wp2
    go_ret2
    exact RetSC.err H.out rfl hb2
  · obtain ⟨A', c', rfl, hl', hc', hr'⟩ := hu
    have Hr' := Lib.hid hr'
    unfold maxLen at hc'
    clear hr'
    by_cases h60 : 60 < cs.length
    · have H := Lib.hid (show missing L cs = ([], 2) by simp [missing, h1, h60])
      clear hv
      go_enter Try.func35, Try.ntmps35
      go_wp2_with fail
      refine (specIsStock_any w L v Hv.out Hf.out hn).mono ?_
      rintro e w2 ⟨rfl, hb2⟩
      rw [h1]
      go_wp2
      go_ret2
      exact RetSC.err H.out rfl hb2
    · have hL20 := isStock_le h1
      obtain ⟨i0, hi, hz0, hz1, hz2⟩ := info_parts Try.infoBin
      obtain ⟨A, c, rfl, hl, hc, hr⟩ := hv
      unfold maxLen at hc
      have Hr := Lib.hid hr
      clear hr
      clear hl hc hi hz0 hz1 hz2
      clear i0
      go_enter Try.func35, Try.ntmps35
      go_wp2_with fail
      refine (specIsStock_any w L _ Hv.out Hf.out hn).mono ?_
      rintro e wo ⟨rfl, hb⟩
      rw [h1]
      have hsz := hb.size
      have H0 := Lib.hid (show missing L cs = (missGo L cs, 0) by simp [missing, h1, h60])
      obtain ⟨j0, hj, hy0, hy1, hy2⟩ := info_parts Try.info_strs
      have hap : Apart (.slice A L.length c) (.slice (some ⟨wo.heap.size, 0, none⟩) 0 0) L.length (wo.alloc (.cells #[] 9)) := Apart.start Hv.out hsz
      have Hap := Lib.hid hap
      clear hap
      go_wp2
      go_loopw [0, 6, 7] (fun x s i wr => ∃ (k : Nat) (M : List Bin) (ns : List ByteArray) (Ax : Option Addr) (cx : Nat) (Ao : Option Addr) (co : Nat), k ≤ cs.length ∧ i = .int .i64 k ∧ x = .slice Ax M.length cx ∧ s = .slice Ao ns.length co ∧ MissInv L cs k M ns ∧ Sl wr 5 (.slice Ax M.length cx) M.length (binRow M) ∧ binFit M ∧ wr.ownsRow wo.heap.size 9 1 (.slice Ao ns.length co) ns.length (strsRow ns) ∧ Below wo.heap.size wo wr ∧ Apart (.slice Ax M.length cx) (.slice Ao ns.length co) M.length wr) (fun _ _ i _ => cs.length - (intOf i).toNat)
      case atStart => exact ⟨0, L, [], A, c, some ⟨wo.heap.size, 0, none⟩, 0, Nat.zero_le _, rfl, rfl, rfl, MissInv.start cs h1, (Hv.out.below hb).below ((Below.refl _ _).alloc (Nat.le_refl _) _), Hf.out, own_empty _ _ _ (Nat.le_refl _), (Below.refl _ _).alloc (Nat.le_refl _) _, Hap.out⟩
      case round =>
        obtain ⟨k, M, ns, Ax, cx, Ao, co, hk, rfl, rfl, rfl, hI, hx, hfM, hs, hbi, hap⟩ := hrel
        have HI := Lib.hid hI
        have Hx := Lib.hid hx
        have HfM := Lib.hid hfM
        have Hs := Lib.hid hs
        have Hap := Lib.hid hap
        have hnl := hI.2.2.1
        have hM20 := isStock_le hI.2.1
        have hszi := hbi.size
        clear hI hx hfM hs hap
        have hbw := hb.trans (hbi.mono hsz)
        by_cases hlt : k < cs.length
        · obtain ⟨g', o', rfl, hg', c0⟩ := (Hr'.out.below hbw (Nat.le_refl _)).strs hlt
          have hcf := Hg.out k hlt
          have i1 : (0 : Int) ≤ (k : Int) := Int.natCast_nonneg _
          have i2 : (k : Int) < (cs.length : Int) := by omega
          have hbad : ∀ code : Int, code = 4 ∨ code = 5 → reserve M (strsAt cs k) 1 = ([], code) → MissInv L cs (k + 1) M (ns ++ [strsAt cs k]) → True := fun _ _ _ _ => trivial
          clear hbad
          have hthree : (∃ code : Int, (code != 0) = true ∧ reserve M (strsAt cs k) 1 = ([], code) ∧ MissInv L cs (k + 1) M (ns ++ [strsAt cs k])) ∨ (∃ i, i < M.length ∧ reserve M (strsAt cs k) 1 = (binSet M i (binAt M i).amount ((binAt M i).reserved + 1), 0) ∧ MissInv L cs (k + 1) (binSet M i (binAt M i).amount ((binAt M i).reserved + 1)) ns) := by
            have hS := HI.out.2.1
            cases hx : binIx M (strsAt cs k) with
            | none => exact .inl ⟨4, by decide, by simp [reserve, binCode, hS, hx, inR], HI.out.none_ hlt hx⟩
            | some i =>
              have hiM := (binIx_some.1 hx).1
              obtain ⟨_, ⟨a1, a2⟩, ⟨r1, r2⟩, _⟩ := stock_bin hS hiM
              have hc : binCode M (strsAt cs k) 1 = 0 := by simp [binCode, hS, hx, inR]
              by_cases heq : (binAt M i).reserved = (binAt M i).amount
              · exact .inl ⟨5, by decide, by rw [reserve, hc, ix_some hx, if_pos rfl, if_pos (by omega)], HI.out.full hlt hx heq⟩
              · exact .inr ⟨i, hiM, by rw [reserve, hc, ix_some hx, if_pos rfl, if_neg (by omega)], HI.out.step hlt hx heq⟩
          rcases hthree with ⟨code, t0, hE, hI'⟩ | ⟨i, hiM, hE, hI'⟩
          · have E := Lib.hid hE
            have I' := Lib.hid hI'
            clear hE hI'
            go_wp2_with fail
            refine (specReservePieces_any wr M _ (strsAt cs k) 1 Hx.out HfM.out (by omega) hcf).mono ?_
            rw [E.out]
            rintro e w3 ⟨y, rfl, ho3, hb3⟩
            have b3 := hbi.trans (hb3.mono hszi)
            have hs3 := b3.size
            have hs4 := hb3.size
            have Hs3 := Lib.hid (own_below Hs.out hb3)
            have d0 : w3.cell? ⟨g', o' + k, none⟩ = some (.string (strsAt cs k)) := (hb3.cell (p := ⟨g', o' + k, none⟩) (by show g' < wr.heap.size; omega)).trans c0
            clear c0 ho3
            go_wp2_with (at_builtin; refine wpList_append_sl _ rfl (.tmp 34) (.tmp 39) _ rfl wo.heap.size 9 j0 _ 1 16 Try.underlying38 hj hy0 hy1 hy2 rfl (by omega) _ ns.length (strsRow ns) rfl (Hs3.out.alloc _) (some ⟨w3.heap.size, 0, none⟩) 1 1 [.string (strsAt cs k)] rfl (Rd.of_block (cs := #[.string (strsAt cs k)]) (heap_alloc_new _ _) rfl) (by intro x hx; simp at hx; subst hx; rfl) (by unfold maxLen; omega) (by omega) (by simp; omega) ?_; intro A8 c8 w8 ho8 hg8 hor8)
            have b8 : Below wo.heap.size wo w8 := (b3.alloc hs3 _).grown hg8 (by simp; omega) (fun q hq => (World.ownsRow.lt Hs3.out q hq).1)
            have X8 := Lib.hid (Sl.grown_apart ((Hx.out.below hb3).below ((Below.refl _ _).alloc (Nat.le_refl _) _)) hg8 ((Hap.out.mono hs4).mono (by simp)))
            have A8p := Lib.hid (((Hap.out.mono hs4).mono (by simp) : Apart _ _ _ (w3.alloc (.cells #[.string (strsAt cs k)] 9))).append hor8 hg8.size)
            have O8 := Lib.hid ho8
            clear ho8 hg8 hor8
            go_wp2
            go_roundw
            case rel =>
              refine ⟨k + 1, M, ns ++ [strsAt cs k], Ax, cx, A8, c8, by omega, by go_num, rfl, by rw [List.length_append]; rfl, I'.out, X8.out, HfM.out, ?_, b8, ?_⟩
              · rw [List.length_append, strsRow_append]; exact O8.out
              · rw [List.length_append]; exact A8p.out
            case measure => simp [intOf]; omega
          · have E := Lib.hid hE
            have I' := Lib.hid hI'
            clear hE hI'
            go_wp2_with fail
            refine (specReservePieces_any wr M _ (strsAt cs k) 1 Hx.out HfM.out (by omega) hcf).mono ?_
            rw [E.out]
            rintro e w3 ⟨y, rfl, ho3, hb3⟩
            have b3 := hbi.trans (hb3.mono hszi)
            have Hs3 := Lib.hid (own_below Hs.out hb3)
            obtain ⟨A3, c3, rfl, _, _⟩ := own_slice ho3
            have Ho3 := Lib.hid ho3
            have Ap := Lib.hid (Apart.fresh ho3 Hs.out)
            clear ho3
            go_wp2
            go_roundw
            case rel => exact ⟨k + 1, _, ns, A3, c3, Ao, co, by omega, by go_num, rfl, rfl, I'.out, Sl.of_own Ho3.out, binFit_set HfM.out hiM _ _, Hs3.out, b3, Ap.out⟩
            case measure => simp [intOf]; omega
        · have hI := HI.out.last (show k = cs.length by omega)
          have H := Lib.hid (show missing L cs = (ns, 0) by rw [H0.out, hI])
          clear hI
          go_wp2
          go_ret2
          exact RetSC.ok H.out Hs.out rfl rfl (by omega) hbw

end Go.Proofs.Ytngphnfbfednnaa
