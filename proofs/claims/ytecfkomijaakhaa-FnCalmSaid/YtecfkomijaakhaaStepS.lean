/- The lists of Step: what memory holds of them; the walks of the laws' own small functions on them (sz, to, eq, mark); an argument opened. Printed by gen_steps.py. -/
import Derived.Test.YtecfkomijaakhaaInts
import Derived.Lib.SmallJoins
namespace Go.Proofs.Ytecfkomijaakhaa
open Go.ChangeShapes Go.WideShapes Go.ChangeAt Go.RowKit Go.Deep

structure Step where
  minutes : Int
  tool : Int
  after : List Int
instance : Inhabited Step := ⟨⟨0, 0, []⟩⟩
/-- The i-th. -/
def stepAt (L : List Step) (i : Nat) : Step := L.getD i default
theorem stepAt_lt {L : List Step} {i : Nat} (h : i < L.length) : stepAt L i = L[i] := by simp [stepAt, List.getD, h]
/-- The length of all. -/
def stepSz : List Step → Nat
  | [] => 0
  | s :: l => s.after.length + stepSz l
theorem stepSz_take (L : List Step) {k : Nat} (h : k < L.length) : stepSz (L.take (k + 1)) = stepSz (L.take k) + (stepAt L k).after.length := by
  induction L generalizing k with
  | nil => simp at h
  | cons a l ih =>
    cases k with
    | zero => simp [stepSz, stepAt]
    | succ k =>
      have := ih (k := k) (by simpa using h)
      simp only [List.take_succ_cons, stepSz, this]
      simp [stepAt, List.getD]; omega
theorem stepSz_le (L : List Step) (k : Nat) : stepSz (L.take k) ≤ stepSz L := by
  induction L generalizing k with
  | nil => simp
  | cons a l ih =>
    cases k with
    | zero => simp [stepSz]
    | succ k => have := ih k; simp only [List.take_succ_cons, stepSz]; omega
theorem stepSz_at (L : List Step) {k : Nat} (h : k < L.length) : (stepAt L k).after.length ≤ stepSz L := by
  have h1 := stepSz_take L h
  have h2 := stepSz_le L (k + 1)
  omega

/-- The steps of a slice that is read: each element's three cells, what its third one holds. -/
def StR (w : World) (A : Option Addr) (L : List Step) : Prop :=
  0 < L.length → ∃ g o, A = some ⟨g, o, none⟩ ∧ g < w.heap.size ∧ ∀ i, i < L.length →
    w.cell? ⟨g, o + i * 3, none⟩ = some (.int .i64 (stepAt L i).minutes) ∧ w.cell? ⟨g, o + i * 3 + 1, none⟩ = some (.int .i64 (stepAt L i).tool) ∧
    ∃ B c, w.cell? ⟨g, o + i * 3 + 2, none⟩ = some (.slice B (stepAt L i).after.length c) ∧ (stepAt L i).after.length ≤ c ∧ c ≤ maxLen ∧ Rd w w.heap.size 1 B (stepAt L i).after.length (intsRow (stepAt L i).after)
/-- The value V is a slice that reads as the steps L. -/
def Steps (w : World) (V : Value) (L : List Step) : Prop := ∃ A c, V = .slice A L.length c ∧ L.length ≤ c ∧ c ≤ maxLen ∧ StR w A L
section
variable {w w' : World} {A : Option Addr} {V : Value} {L : List Step}
theorem StR.below (h : StR w A L) (hb : Below w.heap.size w w') : StR w' A L := by
  intro hn
  obtain ⟨g, o, e, hg, hc⟩ := h hn
  refine ⟨g, o, e, Nat.lt_of_lt_of_le hg hb.size, fun i hi => ?_⟩
  obtain ⟨c0, c1, B, c, c2, h1, h2, h3⟩ := hc i hi
  exact ⟨(hb.cell hg).trans c0, (hb.cell hg).trans c1, B, c, (hb.cell hg).trans c2, h1, h2, h3.below' hb⟩
theorem StR.drewN (h : StR w A L) (k : Nat) : StR (w.drewN k) A L := h
theorem Steps.below (h : Steps w V L) (hb : Below w.heap.size w w') : Steps w' V L := by
  obtain ⟨A, c, rfl, h1, h2, h3⟩ := h
  exact ⟨A, c, rfl, h1, h2, h3.below hb⟩
theorem StR.at (h : StR w A L) {i : Nat} (hi : i < L.length) : ∃ g o, A = some ⟨g, o, none⟩ ∧ g < w.heap.size ∧
    w.cell? ⟨g, o + i * 3, none⟩ = some (.int .i64 (stepAt L i).minutes) ∧ w.cell? ⟨g, o + i * 3 + 1, none⟩ = some (.int .i64 (stepAt L i).tool) ∧
    ∃ B c, w.cell? ⟨g, o + i * 3 + 2, none⟩ = some (.slice B (stepAt L i).after.length c) ∧ (stepAt L i).after.length ≤ c ∧ c ≤ maxLen ∧ Rd w w.heap.size 1 B (stepAt L i).after.length (intsRow (stepAt L i).after) := by
  obtain ⟨g, o, e, hg, hc⟩ := h (by omega)
  exact ⟨g, o, e, hg, hc i hi⟩
end

/-- Steps of the call's own: blocks from base on, below top. -/
def OSteps (w : World) (base top : Nat) (V : Value) (L : List Step) : Prop :=
  ∃ xs, w.ownsRow base 51 3 V L.length xs ∧ (∀ g, V.ownBlock = some g → g < top) ∧ ∀ i, i < L.length →
    xs[i * 3]? = some (.int .i64 (stepAt L i).minutes) ∧ xs[i * 3 + 1]? = some (.int .i64 (stepAt L i).tool) ∧
    ∃ v, xs[i * 3 + 2]? = some v ∧ w.ownsRow base 2 1 v (stepAt L i).after.length (intsRow (stepAt L i).after) ∧ (∀ g, v.ownBlock = some g → g < top ∧ V.ownBlock ≠ some g)
section
variable {w w' : World} {base top : Nat} {V : Value} {L : List Step}
theorem OSteps.below (h : OSteps w base top V L) (hb : Below w.heap.size w w') : OSteps w' base top V L := by
  obtain ⟨xs, h1, h2, h3⟩ := h
  refine ⟨xs, own_below h1 hb, h2, fun i hi => ?_⟩
  obtain ⟨c0, c1, v, c2, h4, h5⟩ := h3 i hi
  exact ⟨c0, c1, v, c2, own_below h4 hb, h5⟩
theorem OSteps.steps (h : OSteps w base top V L) : Steps w V L := by
  obtain ⟨xs, h1, h2, h3⟩ := h
  obtain ⟨A, c, rfl, hc, hm⟩ := own_slice h1
  refine ⟨A, c, rfl, hc, hm, fun hn => ?_⟩
  obtain ⟨g, o, e, hg, hcell⟩ := (Rd.of_own h1).2 hn
  refine ⟨g, o, e, hg, fun i hi => ?_⟩
  obtain ⟨c0, c1, v, c2, h4, h5⟩ := h3 i hi
  obtain ⟨B, cc, rfl, hcc, hcm⟩ := own_slice h4
  refine ⟨hcell _ _ c0, ?_, B, cc, ?_, hcc, hcm, Rd.of_own h4⟩
  · rw [Nat.add_assoc]; exact hcell _ _ c1
  · rw [Nat.add_assoc]; exact hcell _ _ c2
theorem OSteps.drew (h : OSteps w base top V L) : OSteps w.drew base top V L := h
theorem OSteps.top_le (h : OSteps w base top V L) {top' : Nat} (ht : top ≤ top') : OSteps w base top' V L := by
  obtain ⟨xs, h1, h2, h3⟩ := h
  refine ⟨xs, h1, fun g hg => Nat.lt_of_lt_of_le (h2 g hg) ht, fun i hi => ?_⟩
  obtain ⟨c0, c1, v, c2, h4, h5⟩ := h3 i hi
  exact ⟨c0, c1, v, c2, h4, fun g hg => ⟨Nat.lt_of_lt_of_le (h5 g hg).1 ht, (h5 g hg).2⟩⟩
end
/-- A call that writes into blocks from base on, below top, alone. -/
structure Only (base top : Nat) (w w' : World) : Prop where
  os : w'.os = w.os
  tape : w'.tape = w.tape
  output : w'.output = w.output
  size : w.heap.size ≤ w'.heap.size
  block : ∀ k, k < w.heap.size → k < base ∨ top ≤ k → w'.heap[k]? = w.heap[k]?
theorem Only.refl (base top : Nat) (w : World) : Only base top w w := ⟨rfl, rfl, rfl, Nat.le_refl _, fun _ _ _ => rfl⟩
theorem Only.trans {base top : Nat} {a b c : World} (h : Only base top a b) (k : Only base top b c) : Only base top a c :=
  ⟨k.os.trans h.os, k.tape.trans h.tape, k.output.trans h.output, Nat.le_trans h.size k.size, fun i hi hr => (k.block i (Nat.lt_of_lt_of_le hi h.size) hr).trans (h.block i hi hr)⟩
theorem Only.of_grown {base top : Nat} {w w' : World} {row : Option Nat} (h : w.grownBy w' row) (hr : ∀ g, row = some g → base ≤ g ∧ g < top) : Only base top w w' :=
  ⟨h.os, h.tape, h.output, h.size, fun k hk ho => h.block k hk (fun e => by have := hr k e.symm; omega)⟩
theorem Only.below {base top B : Nat} {w w' : World} (h : Only base top w w') (hB : B ≤ w.heap.size) (hb : B ≤ base) : Below B w w' :=
  ⟨h.os, h.tape, h.output, h.size, fun k hk => h.block k (by omega) (.inl (by omega))⟩
theorem own_only {w w' : World} {base top b e size n : Nat} {v : Value} {xs : List Value} (h : w.ownsRow b e size v n xs) (ho : Only base top w w') (hr : ∀ g, v.ownBlock = some g → g < base ∨ top ≤ g) : w'.ownsRow b e size v n xs := by
  refine ⟨h.1, ?_⟩
  rcases h.2 with h0 | ⟨g, cap, cur, rfl, h1, h2, h3⟩
  · exact .inl h0
  · exact .inr ⟨g, cap, cur, rfl, h1, (ho.block g (Array.getElem?_eq_some_iff.1 h2).1 (hr g rfl)).trans h2, h3⟩

set_option maxHeartbeats 400000 in
theorem szInts_any (l : List Int) (v : Value) (n : Int) (w : World) (hv : ∃ A c, v = .slice A l.length c ∧ l.length ≤ c ∧ c ≤ maxLen) (h0 : 0 ≤ n) (h1 : n ≤ 1048576) :
    Calls Try.prog 80 #[v, .int .i64 n] w fun e w' => ∃ r : Int, e = .returned (.int .i64 r) ∧ r ≤ 1048576 ∧ (0 ≤ r → r = n - l.length) ∧ w = w' := by
  obtain ⟨A, c, rfl, hl, hc⟩ := hv
  unfold maxLen at hc
  by_cases hn : n < l.length
  · go_enter Try.func80, Try.ntmps80
    go_wp2
    go_ret
    exact ⟨-1, rfl, by omega, by omega, rfl⟩
  · go_enter Try.func80, Try.ntmps80
    go_wp2
    go_ret
    exact ⟨_, rfl, by omega, by omega, rfl⟩

set_option maxHeartbeats 400000 in
theorem szStep_any (s : Step) (A : Option Addr) (c : Nat) (n : Int) (w : World) (hc : s.after.length ≤ c) (hm : c ≤ maxLen) (h0 : 0 ≤ n) (h1 : n ≤ 1048576) :
    Calls Try.prog 53 #[.agg #[.int .i64 s.minutes, .int .i64 s.tool, .slice A s.after.length c], .int .i64 n] w fun e w' => ∃ r : Int, e = .returned (.int .i64 r) ∧ r ≤ 1048576 ∧ (0 ≤ r → r = n - s.after.length) ∧ Below w.heap.size w w' := by
  go_enter Try.func53, Try.ntmps53
  go_wp2_with fail
  refine (szInts_any s.after _ n _ ⟨A, c, rfl, hc, hm⟩ h0 h1).mono ?_
  rintro e w2 ⟨r, rfl, hr1, hr2, rfl⟩
  by_cases hneg : r < 0
  · go_wp2
    go_ret
    exact ⟨-1, rfl, by omega, by omega, (Below.refl _ _).alloc (Nat.le_refl _) _⟩
  · go_wp2
    go_ret
    exact ⟨r, rfl, hr1, hr2, (Below.refl _ _).alloc (Nat.le_refl _) _⟩

set_option maxHeartbeats 800000 in
theorem szStepS_any (L : List Step) (v : Value) (n : Int) (w : World) (hv : Steps w v L) (h0 : 0 ≤ n) (h1 : n ≤ 1048576) :
    Calls Try.prog 16 #[v, .int .i64 n] w (SzPost (L.length + stepSz L) w) := by
  obtain ⟨A, c, rfl, hl, hc, hr⟩ := hv
  have Hr := Lib.hid hr
  unfold maxLen at hc
  clear hr
  by_cases hn : n < L.length
  · go_enter Try.func16, Try.ntmps16
    go_wp2
    go_ret
    exact ⟨-1, rfl, by omega, by omega, Below.refl _ _⟩
  · go_enter Try.func16, Try.ntmps16
    go_wp2
    go_loopw [1, 5] (fun u i wr => ∃ (k : Nat) (q : Int), k ≤ L.length ∧ i = .int .i64 k ∧ u = .int .i64 q ∧ 0 ≤ q ∧ q = n - L.length - stepSz (L.take k) ∧ Below w.heap.size w wr) (fun _ i _ => L.length - (intOf i).toNat)
    case atStart => exact ⟨0, n - L.length, Nat.zero_le _, rfl, by go_num, by omega, by simp [stepSz], Below.refl _ _⟩
    case round =>
      obtain ⟨k, q, hk, rfl, rfl, hq, he, hb⟩ := hrel
      have He := Lib.hid he
      clear he
      have hq2 : q ≤ 1048576 := by have := He.out; omega
      by_cases hlt : k < L.length
      · obtain ⟨g, o, rfl, hg, c0, c1, B, cc, c2, h3, h4, _⟩ := (Hr.out.below hb).at hlt
        have hsz := hb.size
        go_wp2_with fail
        refine (szStep_any (stepAt L k) B cc q _ h3 h4 hq hq2).mono ?_
        rintro e w2 ⟨r, rfl, hr1, hr2, hb2⟩
        by_cases hneg : r < 0
        · go_wp2
          go_ret
          exact ⟨-1, rfl, by omega, by omega, hb.trans (hb2.mono hsz)⟩
        · go_wp2
          go_roundw
          case rel => exact ⟨k + 1, r, by omega, by go_num, rfl, by omega, by rw [stepSz_take L hlt, hr2 (by omega), He.out]; simp; omega, hb.trans (hb2.mono hsz)⟩
          case measure => simp [intOf]; omega
      · go_wp2
        go_ret
        have hk2 : k = L.length := by omega
        subst hk2
        have e := He.out
        rw [List.take_length] at e
        exact ⟨q, rfl, hq2, by omega, hb⟩

set_option maxHeartbeats 400000 in
theorem toStep_any (s : Step) (A : Option Addr) (c : Nat) (w : World) (hv : Sl w 1 (.slice A s.after.length c) s.after.length (intsRow s.after)) (hn : s.after.length ≤ 1048576) :
    Calls Try.prog 58 #[.agg #[.int .i64 s.minutes, .int .i64 s.tool, .slice A s.after.length c]] w fun e w' =>
      ∃ v, e = .returned (.agg #[.int .i64 s.minutes, .int .i64 s.tool, v]) ∧ w'.ownsRow w.heap.size 2 1 v s.after.length (intsRow s.after) ∧ Below w.heap.size w w' := by
  go_enter Try.func58, Try.ntmps58
  have b3 := (((Below.refl w.heap.size w).alloc (Nat.le_refl _) (.cells #[.int .i64 s.minutes, .int .i64 s.tool, .slice A s.after.length c] 57)).alloc (by simp) (.cells #[.int .i64 0, .int .i64 0, .slice none 0 0] 51)).alloc (by simp; omega) (.cells #[.int .i64 0, .int .i64 0, .slice none 0 0] 51)
  have Hv := Lib.hid hv
  clear hv
  go_wp2_with fail
  refine (toInts_any s.after _ _ (Hv.out.below (((Below.refl w.heap.size w).alloc (Nat.le_refl _) _ |>.alloc (by simp) _).alloc (by simp; omega) _)) hn).mono ?_
  rintro e w2 ⟨v, rfl, ho, hb⟩
  obtain ⟨A2, c2, rfl, _, _⟩ := own_slice ho
  have hB : Blk w2 (w.heap.size + 1 + 1) 51 #[.int .i64 s.minutes, .int .i64 s.tool, .slice none 0 0] := by
    refine Blk.below ?_ hb (by simp)
    have := Blk.new ((w.alloc (.cells #[.int .i64 s.minutes, .int .i64 s.tool, .slice A s.after.length c] 57)).alloc (.cells #[.int .i64 0, .int .i64 0, .slice none 0 0] 51)) 51 #[.int .i64 s.minutes, .int .i64 s.tool, .slice none 0 0]
    simpa using this
  have hC : Blk w2 (w.heap.size + 1) 51 #[.int .i64 0, .int .i64 0, .slice none 0 0] := by
    refine Blk.below ?_ hb (by simp)
    have := (Blk.new (w.alloc (.cells #[.int .i64 s.minutes, .int .i64 s.tool, .slice A s.after.length c] 57)) 51 #[.int .i64 0, .int .i64 0, .slice none 0 0]).alloc (.cells #[.int .i64 s.minutes, .int .i64 s.tool, .slice none 0 0] 51)
    simpa using this
  have d0 : w2.cell? ⟨w.heap.size + 1 + 1, 0, none⟩ = some (.int .i64 s.minutes) := hB.cell 0
  have d1 : w2.cell? ⟨w.heap.size + 1 + 1, 1, none⟩ = some (.int .i64 s.tool) := hB.cell 1
  have d2 : w2.cell? ⟨w.heap.size + 1 + 1, 2, none⟩ = some (.slice none 0 0) := hB.cell 2
  have e0 : w2.cell? ⟨w.heap.size + 1, 0, none⟩ = some (.int .i64 0) := hC.cell 0
  have e1 : w2.cell? ⟨w.heap.size + 1, 1, none⟩ = some (.int .i64 0) := hC.cell 1
  have e2 : w2.cell? ⟨w.heap.size + 1, 2, none⟩ = some (.slice none 0 0) := hC.cell 2
  have f2 := hB.frozen 2
  have z0 := hC.frozen 0
  have z1 := hC.frozen 1
  have z2 := hC.frozen 2
  have hbs : Below w.heap.size w w2 := (((Below.refl w.heap.size w).alloc (Nat.le_refl _) _ |>.alloc (by simp) _).alloc (by simp; omega) _).trans (hb.mono (by simp; omega))
  have n1 : (Value.slice A2 s.after.length c2).ownBlock ≠ some (w.heap.size + 1 + 1) := fun h => by have := (World.ownsRow.lt ho _ h).1; simp at this; omega
  have n2 : (Value.slice A2 s.after.length c2).ownBlock ≠ some (w.heap.size + 1) := fun h => by have := (World.ownsRow.lt ho _ h).1; simp at this; omega
  have N1 := Lib.hid n1
  have N2 := Lib.hid n2
  have Ho := Lib.hid (own_base ho (base' := w.heap.size) (by simp; omega))
  have hbz := hb.size
  simp at hbz
  have Hb := Lib.hid hbs
  clear ho hB hC hb hbs n1 n2
  go_wp2
  refine bodyPost_ret (v := .agg #[.int .i64 s.minutes, .int .i64 s.tool, .slice A2 s.after.length c2]) (by simp [results, Try.results58, go_sem, d0, d1, d2, e0, e1, e2]) rfl ⟨_, rfl, ?_, ?_⟩
  · exact own_far (own_far (own_far (own_far Ho.out N1.out _) N2.out _) N2.out _) N2.out _
  · exact (((Hb.out.setCell (by simp; omega) _).setCell (by simp) _).setCell (by simp) _).setCell (by simp) _

theorem Try.infoStep : (Try.prog.info? 51).map (fun i => (i.zero, i.size, i.bytes)) = some (some (.agg #[.int .i64 0, .int .i64 0, .slice none 0 0]), 3, 40) := by kernel_rfl

set_option maxHeartbeats 800000 in
theorem toStepS_any (L : List Step) (v : Value) (w : World) (hv : Steps w v L) (hn : L.length + stepSz L ≤ 1048576) :
    Calls Try.prog 18 #[v] w fun e w' => ∃ y, e = .returned y ∧ OSteps w' w.heap.size w'.heap.size y L ∧ Below w.heap.size w w' := by
  obtain ⟨A, c, rfl, hl, hc, hr⟩ := hv
  have Hr := Lib.hid hr
  clear hr hl hc
  obtain ⟨i0, hi, hz0, hz1, hz2⟩ := info_parts Try.infoStep
  go_enter Try.func18, Try.ntmps18
  go_wp2_with (at_make; refine wpList_make_full _ rfl _ _ 25 rfl w.heap.size 51 i0 _ 3 Try.underlying25 hi hz0 hz1 _ _ _ _ L.length rfl rfl rfl rfl ?b1 ?b2 ?b3 ?_)
  case b1 => rw [hz2]; omega
  case b2 => unfold maxLen; omega
  case b3 => exact Nat.le_refl _
  intro w1 hown hgr
  have hb1 := (Below.refl w.heap.size w).grown hgr (Nat.le_refl _) (fun _ h => by cases h)
  have hglt := (World.ownsRow.lt hown _ rfl).2
  have Hown := Lib.hid hown
  clear hgr hown
  go_wp2
  go_loopw [4] (fun i wr => ∃ (k : Nat) (xs : List Value), k ≤ L.length ∧ i = .int .i64 k ∧ wr.ownsRow w.heap.size 51 3 (.slice (some ⟨w.heap.size, 0, none⟩) L.length L.length) L.length xs ∧
      (∀ i, i < k → xs[i * 3]? = some (.int .i64 (stepAt L i).minutes) ∧ xs[i * 3 + 1]? = some (.int .i64 (stepAt L i).tool) ∧
        ∃ v, xs[i * 3 + 2]? = some v ∧ wr.ownsRow w.heap.size 2 1 v (stepAt L i).after.length (intsRow (stepAt L i).after) ∧ v.ownBlock ≠ some w.heap.size) ∧ w.heap.size < wr.heap.size ∧ Below w.heap.size w wr)
    (fun i _ => L.length - (intOf i).toNat)
  case atStart => exact ⟨0, _, Nat.zero_le _, rfl, Hown.out, fun i h => absurd h (by omega), hglt, hb1⟩
  case round =>
    obtain ⟨k, xs, hk, rfl, ho, hall, hgt, hb⟩ := hrel
    have Ho := Lib.hid ho
    have Hall := Lib.hid hall
    clear ho hall
    have hsz := hb.size
    by_cases hlt : k < L.length
    · obtain ⟨g, o, rfl, hg, c0, c1, B, cc, c2, h3, h4, h5⟩ := (Hr.out.below hb).at hlt
      go_wp2_with fail
      refine (toStep_any (stepAt L k) B cc _ ⟨B, cc, rfl, h3, h4, h5⟩ (by have := stepSz_at L hlt; omega)).mono ?_
      rintro e w2 ⟨y, rfl, hy, hb2⟩
      obtain ⟨Ay, cy, rfl, _, _⟩ := own_slice hy
      have ho2 := own_below Ho.out hb2
      obtain ⟨x0, d0⟩ := own_cell ho2 (j := k * 3) (by omega)
      have f0 := ho2.frozenAt (k * 3)
      obtain ⟨x1, d1⟩ := own_cell ho2 (j := k * 3 + 1) (by omega)
      have f1 := ho2.frozenAt (k * 3 + 1)
      obtain ⟨x2, d2⟩ := own_cell ho2 (j := k * 3 + 2) (by omega)
      have f2 := ho2.frozenAt (k * 3 + 2)
      have Ho2 := Lib.hid ho2
      have Hy := Lib.hid hy
      have hyne : (Value.slice Ay (stepAt L k).after.length cy).ownBlock ≠ some w.heap.size := fun h => by have := (World.ownsRow.lt Hy.out _ h).1; omega
      have Hyne := Lib.hid hyne
      have hs2 := hb2.size
      clear ho2 hy hyne c0 c1 c2 h5
      go_wp2
      go_roundw
      case rel =>
        have hlen := Ho2.out.1
        refine ⟨k + 1, _, by omega, by go_num, (((Ho2.out.stored (k * 3) _).1.stored (k * 3 + 1) _).1.stored (k * 3 + 2) _).1, fun i hi => ?_, by simp [World.setCell]; omega, ((((hb.trans (hb2.mono hsz)).setCell (Nat.le_refl _) _).setCell (Nat.le_refl _) _).setCell (Nat.le_refl _) _)⟩
        by_cases e : i = k
        · subst e
          refine ⟨?_, ?_, _, ?_, own_far (own_far (own_far (own_base Hy.out hsz) Hyne.out _) Hyne.out _) Hyne.out _, Hyne.out⟩
          · rw [List.getElem?_set_ne (by omega), List.getElem?_set_ne (by omega), List.getElem?_set_self (by omega)]
          · rw [List.getElem?_set_ne (by omega), List.getElem?_set_self (by simp; omega)]
          · rw [List.getElem?_set_self (by simp; omega)]
        · obtain ⟨q0, q1, v, q2, hv, hne⟩ := Hall.out i (by omega)
          refine ⟨?_, ?_, v, ?_, own_far (own_far (own_far (own_below hv hb2) hne _) hne _) hne _, hne⟩
          · rw [List.getElem?_set_ne (by omega), List.getElem?_set_ne (by omega), List.getElem?_set_ne (by omega)]; exact q0
          · rw [List.getElem?_set_ne (by omega), List.getElem?_set_ne (by omega), List.getElem?_set_ne (by omega)]; exact q1
          · rw [List.getElem?_set_ne (by omega), List.getElem?_set_ne (by omega), List.getElem?_set_ne (by omega)]; exact q2
      case measure => simp [intOf]; omega
    · go_wp2
      go_ret
      have hk2 : k = L.length := by omega
      subst hk2
      refine ⟨_, rfl, ⟨xs, Ho.out, fun g hg => by simp [Value.ownBlock] at hg; omega, fun i hi => ?_⟩, hb⟩
      obtain ⟨q0, q1, v, q2, hv, hne⟩ := Hall.out i hi
      exact ⟨q0, q1, v, q2, hv, fun g hg => ⟨(World.ownsRow.lt hv g hg).2, fun h => hne (hg.trans h.symm)⟩⟩

set_option maxHeartbeats 400000 in
theorem eqStep_same (s : Step) (A A' : Option Addr) (c c' : Nat) (w : World) (hv : Sl w 1 (.slice A s.after.length c) s.after.length (intsRow s.after)) (hv' : Sl w 1 (.slice A' s.after.length c') s.after.length (intsRow s.after)) (hn : s.after.length ≤ 4194304) :
    Calls Try.prog 61 #[.agg #[.int .i64 s.minutes, .int .i64 s.tool, .slice A s.after.length c], .agg #[.int .i64 s.minutes, .int .i64 s.tool, .slice A' s.after.length c']] w fun e w' => e = .returned (.bool true) ∧ Below w.heap.size w w' := by
  have b2 := ((Below.refl w.heap.size w).alloc (Nat.le_refl _) (.cells #[.int .i64 s.minutes, .int .i64 s.tool, .slice A s.after.length c] 51)).alloc (by simp) (.cells #[.int .i64 s.minutes, .int .i64 s.tool, .slice A' s.after.length c'] 51)
  have Hv := Lib.hid hv
  have Hv' := Lib.hid hv'
  clear hv hv'
  go_enter Try.func61, Try.ntmps61
  go_wp2_with fail
  refine (eqInts_same s.after _ _ _ (Hv.out.below b2) (Hv'.out.below b2) hn).mono ?_
  rintro e w2 ⟨rfl, hb⟩
  go_wp2
  go_ret
  exact ⟨rfl, b2.trans (hb.mono b2.size)⟩

set_option maxHeartbeats 1600000 in
theorem eqStepS_same (L : List Step) (v v' : Value) (w : World) (hv : Steps w v L) (hv' : Steps w v' L) (hn : L.length + stepSz L ≤ 1048576) :
    Calls Try.prog 20 #[v, v'] w fun e w' => e = .returned (.bool true) ∧ Below w.heap.size w w' := by
  obtain ⟨A, c, rfl, hl, hc, hr⟩ := hv
  obtain ⟨A', c', rfl, hl', hc', hr'⟩ := hv'
  have Hr := Lib.hid hr
  have Hr' := Lib.hid hr'
  clear hr hr' hl hl' hc hc'
  go_enter Try.func20, Try.ntmps20
  go_wp2
  go_loopw [5] (fun i wr => ∃ k : Nat, k ≤ L.length ∧ i = .int .i64 k ∧ Below w.heap.size w wr) (fun i _ => L.length - (intOf i).toNat)
  case atStart => exact ⟨0, Nat.zero_le _, rfl, Below.refl _ _⟩
  case round =>
    obtain ⟨k, hk, rfl, hb⟩ := hrel
    have hsz := hb.size
    by_cases hlt : k < L.length
    · obtain ⟨g, o, rfl, hg, c0, c1, B, cc, c2, h3, h4, h5⟩ := (Hr.out.below hb).at hlt
      obtain ⟨g', o', rfl, hg', c0', c1', B', cc', c2', h3', h4', h5'⟩ := (Hr'.out.below hb).at hlt
      have hz := stepSz_at L hlt
      have i0 : (0 : Int) ≤ (k : Int) := Int.natCast_nonneg _
      have i1 : (k : Int) < (L.length : Int) := by omega
      have HC := Lib.hid (fun n => eqStep_same (stepAt L k) B B' cc cc' (wr.drewN n) ⟨B, cc, rfl, h3, h4, h5.drewN n⟩ ⟨B', cc', rfl, h3', h4', h5'.drewN n⟩ (by omega))
      clear h5 h5'
      go_wp2_with fail
      go_region_held3 (fun w' => w'.cell? ⟨g, o + k * 3, none⟩ = some (.int .i64 (stepAt L k).minutes) ∧ w'.cell? ⟨g, o + k * 3 + 1, none⟩ = some (.int .i64 (stepAt L k).tool) ∧ w'.cell? ⟨g, o + k * 3 + 2, none⟩ = some (.slice B (stepAt L k).after.length cc) ∧ w'.cell? ⟨g', o' + k * 3, none⟩ = some (.int .i64 (stepAt L k).minutes) ∧ w'.cell? ⟨g', o' + k * 3 + 1, none⟩ = some (.int .i64 (stepAt L k).tool) ∧ w'.cell? ⟨g', o' + k * 3 + 2, none⟩ = some (.slice B' (stepAt L k).after.length cc'))
        (first | (go_split_ands; refine ⟨?_, ?_, ?_, ?_, ?_, ?_⟩ <;> (rw [hb2.cell (by simp; omega)]; assumption)) | go_keep) ((go_at_call 61; refine (HC.out _).mono ?_; rintro e w2 ⟨rfl, hb2⟩))
      go_wp2
      go_roundw
      case rel => exact ⟨k + 1, by omega, by go_num, hb.drew.trans (hb2.mono hsz)⟩
      case measure => simp [intOf]; omega
    · go_wp2
      go_ret
      exact ⟨rfl, hb⟩

/-- A row over the same block as one that is written: a row still. -/
theorem own_again {w w' : World} {b b' e n m : Nat} {v u : Value} {xs ys ys' : List Value} (h : w.ownsRow b e 1 v n xs) (hu : w.ownsRow b' e 1 u m ys) (hu' : w'.ownsRow b' e 1 u m ys') (hs : v.ownBlock = u.ownBlock) : ∃ zs, w'.ownsRow b e 1 v n zs := by
  rcases h.2 with ⟨rfl, rfl⟩ | ⟨g, cap, cur, rfl, h1, h2, h3, h4, h5, h6⟩
  · exact ⟨[], World.ownsRow_nil _ _ _ _⟩
  · rcases hu'.2 with ⟨rfl, rfl⟩ | ⟨g', cap', cur', rfl, _, k2, _, k4, k5, _⟩
    · simp [Value.ownBlock] at hs
    · have hg : g = g' := by simpa [Value.ownBlock] using hs
      subst hg
      rcases hu.2 with ⟨h0, _⟩ | ⟨g2, cap2, cur2, hv, _, l2, _, _, l5, _⟩
      · cases h0
      · injection hv with e1 e2 e3
        injection e1 with e1
        injection e1 with e1
        subst e1; subst e3
        rw [h2] at l2
        have hc : cur = cur2 := by injection l2 with l2; injection l2
        subst hc
        have hcap : cap = cap' := by omega
        refine ⟨cur'.toList.take (n * 1), by simp; omega, .inr ⟨g, cap, cur', rfl, h1, k2, h3, h4, by omega, rfl⟩⟩

set_option maxHeartbeats 1600000 in
theorem markStepS_any (L : List Step) (base top : Nat) (v : Value) (w : World) (ho : OSteps w base top v L) (hn : L.length + stepSz L ≤ 1048576) :
    Calls Try.prog 31 #[v, .int .i64 1] w fun e w' => ∃ r : Nat, e = .returned (.int .i64 r) ∧ Only base top w w' := by
  obtain ⟨xs0, h1, h2, h3⟩ := ho
  obtain ⟨A, c, rfl, _, _⟩ := own_slice h1
  have H1 := Lib.hid h1
  have H2 := Lib.hid h2
  have H3 := Lib.hid h3
  clear h1 h2 h3
  go_enter Try.func31, Try.ntmps31
  go_wp2
  go_loopw [1, 5] (fun u i wr => ∃ (m q : Nat) (ys : List Value), m = 1 + 2 * q + stepSz (L.take q) ∧ q ≤ L.length ∧ u = .int .i64 m ∧ i = .int .i64 q ∧ wr.ownsRow base 51 3 (.slice A L.length c) L.length ys ∧
      (∀ i, i < L.length → ∃ v zs, ys[i * 3 + 2]? = some v ∧ wr.ownsRow base 2 1 v (stepAt L i).after.length zs ∧ (∀ g, v.ownBlock = some g → g < top ∧ (Value.slice A L.length c).ownBlock ≠ some g)) ∧ Only base top w wr)
    (fun _ i _ => L.length - (intOf i).toNat)
  case atStart => exact ⟨1, 0, xs0, by simp [stepSz], Nat.zero_le _, rfl, rfl, H1.out, fun i hi => by obtain ⟨_, _, v, hv, ho, ht⟩ := H3.out i hi; exact ⟨v, _, hv, ho, ht⟩, Only.refl _ _ _⟩
  case round =>
    obtain ⟨m, q, ys, hm, hq, rfl, rfl, h1, h3, h4⟩ := hrel
    have Hm := Lib.hid hm
    have H1 := Lib.hid h1
    have H3 := Lib.hid h3
    have H4 := Lib.hid h4
    have hle := stepSz_le L q
    have hm2 : m ≤ 4194304 := by omega
    clear hm h1 h3 h4
    by_cases hlt : q < L.length
    · obtain ⟨g, cc, hv, hb0, hglt⟩ := own_form H1.out (by omega)
      injection hv with hA hn' hc'
      subst hA
      clear hc' hn' cc
      obtain ⟨u, zs, hu, hou, hut⟩ := H3.out q hlt
      obtain ⟨Au, cu, rfl, _, _⟩ := own_slice hou
      obtain ⟨x0, d0⟩ := own_cell H1.out (j := q * 3) (by omega)
      have f0 := H1.out.frozenAt (q * 3)
      obtain ⟨x1, d1⟩ := own_cell H1.out (j := q * 3 + 1) (by omega)
      have f1 := H1.out.frozenAt (q * 3 + 1)
      have d2 : wr.cell? ⟨g, q * 3 + 2, none⟩ = some (.slice Au (stepAt L q).after.length cu) := (H1.out.cellAt (q * 3 + 2) (by omega)).trans hu
      have Hou := Lib.hid hou
      have Hut := Lib.hid hut
      have hz := stepSz_at L hlt
      obtain ⟨s0, t0⟩ := H1.out.stored (q * 3) (.int .i64 (m : Int))
      obtain ⟨s1, t1⟩ := s0.stored (q * 3 + 1) (.int .i64 ((m + 1 : Nat) : Int))
      have S1 := Lib.hid s1
      have T1 := Lib.hid (gb_trans t0 t1)
      have hne : (Value.slice Au (stepAt L q).after.length cu).ownBlock ≠ some g := fun h => (Hut.out g h).2 rfl
      have Hou2 := Lib.hid (own_far (own_far Hou.out hne (.int .i64 (m : Int)) (p := ⟨g, q * 3, none⟩)) hne (.int .i64 ((m + 1 : Nat) : Int)) (p := ⟨g, q * 3 + 1, none⟩))
      have e1 : (((m + 1 : Nat) : Int)) = (m : Int) + 1 := by omega
      rw [e1] at S1 T1 Hou2
      clear hou hut s0 t0 s1 t1 hu hne e1
      go_wp2_with fail
      rw [show ((m : Int) + 1 + 1) = ((m + 2 : Nat) : Int) by omega]
      refine (markInts_any base (stepAt L q).after.length (m + 2) _ zs _ Hou2.out (by omega) (by omega) (by omega)).mono ?_
      rintro e w2 ⟨r, rfl, er, ho2, hg2⟩
      have hr : (r : Int) = ((1 + 2 * (q + 1) + stepSz (L.take (q + 1)) : Nat) : Int) := by rw [stepSz_take L hlt]; have := Hm.out; omega
      have Ho2 := Lib.hid ho2
      have Hg2 := Lib.hid hg2
      have Er := Lib.hid er
      clear ho2 hg2 d0 d1 d2 f0 f1 er
      go_wp2
      go_roundw
      case rel =>
        have hgt := H2.out g rfl
        have hou0 := Hou.out
        refine ⟨r, q + 1, _, by omega, by omega, by go_num, by go_num, S1.out.kept Hg2.out (.inr fun h => (Hut.out _ h.symm).2 rfl), fun i hi => ?_, (H4.out.trans (Only.of_grown T1.out (fun g' hg' => by injection hg' with hg'; subst hg'; exact ⟨hb0, hgt⟩))).trans (Only.of_grown Hg2.out (fun g' hg' => ⟨(World.ownsRow.lt hou0 g' hg').1, (Hut.out g' hg').1⟩))⟩
        obtain ⟨vi, zi, hvi, hoi, hti⟩ := H3.out i hi
        have hni : vi.ownBlock ≠ some g := fun h => (hti g h).2 rfl
        have ho1 := own_far (own_far hoi hni (.int .i64 (m : Int)) (p := ⟨g, q * 3, none⟩)) hni (.int .i64 ((m : Int) + 1)) (p := ⟨g, q * 3 + 1, none⟩)
        have hread : ((ys.set (q * 3) (.int .i64 (m : Int))).set (q * 3 + 1) (.int .i64 ((m : Int) + 1)))[i * 3 + 2]? = some vi := by
          rw [List.getElem?_set_ne (by omega), List.getElem?_set_ne (by omega)]; exact hvi
        by_cases hsame : vi.ownBlock = (Value.slice Au (stepAt L q).after.length cu).ownBlock
        · obtain ⟨zs', hz'⟩ := own_again ho1 Hou2.out Ho2.out hsame
          exact ⟨vi, zs', hread, hz', hti⟩
        · exact ⟨vi, zi, hread, ho1.kept Hg2.out (.inr hsame), hti⟩
      case measure => simp [intOf]; omega
    · go_wp2
      go_ret
      exact ⟨m, rfl, H4.out⟩

theorem open_steps {H : Type} {enc : TypeId × Value → H} {w : World} {r : Reach} {b : Nat} {v : Value} {d : DataW H} {p : List MemPlace} (hv : Value.okWide Try.prog w r b 22 v)
    (h : DataW.Trod enc Try.prog w 0 (fun _ => true) true 22 v d p) : ∃ L : List Step, Steps w v L := by
  rcases open_structs Try.underlying22 Try.underlying57 (by kernel_rfl) (by kernel_rfl) (okWide_slice Try.underlying22 hv) h with rfl | ⟨a, len, cap, rfl, hl, hc, hf⟩
  · exact ⟨[], none, 0, rfl, Nat.le_refl _, by simp [maxLen], fun h => absurd h (by simp)⟩
  · have hg : ∀ i, i < len → ∃ j : Step, w.cell? (a.add (i * 3 + 0)) = some (.int .i64 (j).minutes) ∧ w.cell? (a.add (i * 3 + 1)) = some (.int .i64 (j).tool) ∧
        ∃ B c, w.cell? (a.add (i * 3 + 2)) = some (.slice B (j).after.length c) ∧ (j).after.length ≤ c ∧ c ≤ maxLen ∧ Rd w w.heap.size 1 B (j).after.length (intsRow (j).after) := by
      intro i hi
      obtain ⟨u0, f0⟩ := hf i hi 0 _ rfl
      obtain ⟨u1, f1⟩ := hf i hi 1 _ rfl
      obtain ⟨u2, f2⟩ := hf i hi 2 _ rfl
      obtain ⟨y0, rfl, z0⟩ := f0.int Try.underlying2
      obtain ⟨y1, rfl, z1⟩ := f1.int Try.underlying2
      obtain ⟨hc2, m, y, ht⟩ := f2
      rcases open_ints Try.underlying29 Try.underlying2 (by kernel_rfl) ht with ⟨hcs, _⟩ | ⟨a2, len2, cap2, zs, hcs, _, hl2, hm2, hz2, _, hcell2, _⟩
      · have hu : u2 = .slice none 0 0 := by simpa using hcs
        exact ⟨⟨y0, y1, []⟩, f0.1, f1.1, none, 0, (show w.cell? (a.add (i * 3 + 2)) = some u2 from hc2).trans (by rw [hu]; rfl), Nat.le_refl _, by simp [maxLen], Rd.none_⟩
      · have hu : u2 = .slice (some a2) len2 cap2 := by simpa using hcs
        have hz3 : zs.length = cap2 := by simpa using hz2
        have hlen : (zs.take len2).length = len2 := by simp; omega
        refine ⟨⟨y0, y1, zs.take len2⟩, f0.1, f1.1, some a2, cap2, (show w.cell? (a.add (i * 3 + 2)) = some u2 from hc2).trans (by rw [hu]; show some (Value.slice (some a2) len2 cap2) = some (Value.slice (some a2) (zs.take len2).length cap2); rw [hlen]), by simp only [hlen]; exact hl2, hm2, by simp [intsRow], fun hn => ?_⟩
        have c0 := hcell2 0 (by simp only at hn; omega)
        rw [show a2.add 0 = a2 from by simp [Addr.add]] at c0
        have hsp := spot_of_cell c0
        obtain ⟨g, o, sp⟩ := a2
        simp only at hsp
        subst hsp
        refine ⟨g, o, rfl, block_lt_cell c0, fun j u hu => ?_⟩
        have hj : j < (zs.take len2).length := by rw [← intsRow_len]; exact (List.getElem?_eq_some_iff.1 hu).1
        have hcj := hcell2 j (by omega)
        rw [addr_add] at hcj
        rw [hcj, ← hu, intsRow_at _ _ hj]
        have hj2 : j < len2 := by omega
        simp [intsAt, List.getD, List.getElem?_take, hj2]
    obtain ⟨J, hJ⟩ := choose_lt hg
    refine ⟨(List.range len).map J, some a, cap, by simp, by simpa using hl, hc, fun hn => ?_⟩
    have hn' : 0 < len := by simpa using hn
    obtain ⟨u0, f0⟩ := hf 0 hn' 0 _ rfl
    obtain ⟨g, o, rfl, hgl⟩ := f0.plain
    refine ⟨g, o, rfl, hgl, fun i hi => ?_⟩
    have hi' : i < len := by simpa using hi
    have ha : stepAt ((List.range len).map J) i = J i := by simp [stepAt, List.getD, hi']
    rw [ha]
    obtain ⟨c0, c1, B, c, c2, h3⟩ := hJ i hi'
    rw [addr_add] at c0 c1 c2
    exact ⟨c0, by rw [Nat.add_assoc]; exact c1, B, c, by rw [Nat.add_assoc]; exact c2, h3⟩

end Go.Proofs.Ytecfkomijaakhaa
