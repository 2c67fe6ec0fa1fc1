/- WorkPlan: what it gives; the walks. Printed by gen_plan.py. -/
import Derived.Test.YtgafjchbfbpmmaaDayS
import Derived.Test.YtgafjchbfbpmmaaPair
import Derived.Test.YtgafjchbfbpmmaaStrs
namespace Go.Proofs.Ytgafjchbfbpmmaa
open Go.RowKit

def planSum (L : List Promise) (P : List Int) : Int := P.foldl (fun s p => s + (promiseAt L p.toNat).min) 0
def planNames (L : List Promise) (P : List Int) : List ByteArray := P.map fun p => (promiseAt L p.toNat).name
def planDays (L : List Promise) (P : List Int) : List Int := (List.range P.length).map fun j => ceilI (planSum L (P.take (j + 1))) 420
def workPlan (L : List Promise) : List ByteArray × List Int × Int := if arePromises L = false then ([], [], 1) else (planNames L (dayOrd L), planDays L (dayOrd L), 0)
theorem dayOrd_len (L : List Promise) : (dayOrd L).length = L.length := orderBy_len _ _
theorem workPlan_len (L : List Promise) : (workPlan L).1.length ≤ 4194304 ∧ (workPlan L).2.1.length ≤ 4194304 := by
  unfold workPlan; split
  · simp
  · rename_i h
    have := arePromises_le (L := L) (by simpa using h)
    simp [planNames, planDays, dayOrd_len]; omega
theorem plan_snoc (L : List Promise) (P : List Int) {k : Nat} (h : k < P.length) {b : Nat} (hb : intsAt P k = b) :
    planSum L (P.take (k + 1)) = planSum L (P.take k) + (promiseAt L b).min ∧ planNames L (P.take (k + 1)) = planNames L (P.take k) ++ [(promiseAt L b).name] ∧
    planDays L (P.take (k + 1)) = planDays L (P.take k) ++ [ceilI (planSum L (P.take k) + (promiseAt L b).min) 420] := by
  have e : P.take (k + 1) = P.take k ++ [(b : Int)] := by rw [take_snoc P 0 h, ← hb]; rfl
  have h1 : planSum L (P.take (k + 1)) = planSum L (P.take k) + (promiseAt L b).min := by rw [e, planSum, List.foldl_append]; simp [planSum]
  refine ⟨h1, by rw [e]; simp [planNames], ?_⟩
  unfold planDays
  rw [List.length_take, List.length_take, show min (k + 1) P.length = k + 1 by omega, show min k P.length = k by omega, List.range_succ, List.map_append]
  congr 1
  · refine List.map_congr_left fun j hj => ?_
    have hj' : j < k := by simpa using hj
    rw [List.take_take, List.take_take, show min (j + 1) (k + 1) = j + 1 by omega, show min (j + 1) k = j + 1 by omega]
  · simp [List.take_take, h1]
theorem planSum_bd {L : List Promise} (hL : promIn L) : ∀ k, k ≤ L.length → (k : Int) ≤ planSum L ((dayOrd L).take k) ∧ planSum L ((dayOrd L).take k) ≤ 2000 * k := by
  intro k
  induction k with
  | zero => intro _; simp [planSum]
  | succ k ih =>
    intro hk
    have h1 := ih (by omega)
    obtain ⟨b, hb, hbl⟩ := orderBy_mem (dayKey L) L.length k (by omega)
    rw [(plan_snoc L (dayOrd L) (k := k) (by rw [dayOrd_len]; omega) hb).1]
    have h2 := (hL.2 b hbl).2
    omega

set_option maxHeartbeats 4000000 in
theorem implWorkPlan_any (w : World) (L : List Promise) (v : Value) (hv : Sl w 3 v L.length (promiseRow L)) (hf : promiseFit L) (hn : L.length ≤ 4194304) :
    Calls Try.prog 50 #[v] w (RetSSC w.heap.size 9 1 strsRow 2 1 intsRow (workPlan L) w) := by
  have Hv := Lib.hid hv
  have Hf := Lib.hid hf
  clear hf
  cases h1 : arePromises L
  · have H := Lib.hid (show workPlan L = ([], [], 1) by simp [workPlan, h1])
    clear hv
    go_enter Try.func50, Try.ntmps50
    go_wp2_with fail
    refine (implArePromises_any w L v Hv.out Hf.out hn).mono ?_
    rintro e w2 ⟨rfl, hb2⟩
    rw [h1]
    go_wp2
    go_ret3
    exact RetSSC.ok H.out (World.ownsRow_nil _ _ _ _) rfl rfl (World.ownsRow_nil _ _ _ _) rfl rfl (Nat.le_refl _) (Nat.le_refl _) (.inl rfl) hb2
  · have hL40 := arePromises_le h1
    have HL := Lib.hid (promIn_of h1)
    have H := Lib.hid (show workPlan L = (planNames L (dayOrd L), planDays L (dayOrd L), 0) by simp [workPlan, h1])
    obtain ⟨i0, hi, hz0, hz1, hz2⟩ := info_parts Try.info_strs
    obtain ⟨j0, hj, hy0, hy1, hy2⟩ := info_parts Try.info_ints
    obtain ⟨A, c, rfl, hl, hc, hr⟩ := hv
    have Hr := Lib.hid hr
    clear hr hl hc
    go_enter Try.func50, Try.ntmps50
    go_wp2_with fail
    refine (implArePromises_any w L _ Hv.out Hf.out hn).mono ?_
    rintro e w2 ⟨rfl, hb2⟩
    rw [h1]
    go_wp2_with fail
    refine (implDayOrder_any w2 L _ (Hv.out.below hb2) HL.out).mono ?_
    rintro e w3 ⟨y, rfl, ho3, hb3⟩
    obtain ⟨A3, c3, rfl, _, _⟩ := own_slice ho3
    have D3 := Lib.hid (Sl.of_own ho3)
    have b3 : Below w2.heap.size w2 w3 := hb3
    clear ho3
    have hs2 := hb2.size
    have Hr2 := Lib.hid (Hr.out.below' hb2)
    have hs3 := b3.size
    go_wp2
    go_loopw [5, 6, 7, 16] (fun s t z i wr => ∃ (k : Nat) (ns : List ByteArray) (ps : List Int) (m : Int) (Ao : Option Addr) (co : Nat) (Ap : Option Addr) (cp : Nat), k ≤ L.length ∧ ns = planNames L ((dayOrd L).take k) ∧ ps = planDays L ((dayOrd L).take k) ∧ m = planSum L ((dayOrd L).take k) ∧ ns.length = k ∧ ps.length = k ∧ i = .int .i64 k ∧ z = .int .i64 m ∧ s = .slice Ao ns.length co ∧ t = .slice Ap ps.length cp ∧
        wr.ownsRow w2.heap.size 9 1 (.slice Ao ns.length co) ns.length (strsRow ns) ∧ wr.ownsRow w2.heap.size 2 1 (.slice Ap ps.length cp) ps.length (intsRow ps) ∧ Below w2.heap.size w2 wr ∧ Sl wr 1 (.slice A3 L.length c3) L.length (intsRow (dayOrd L)) ∧ Apart (.slice A3 L.length c3) (.slice Ao ns.length co) L.length wr ∧ Apart (.slice A3 L.length c3) (.slice Ap ps.length cp) L.length wr ∧ ((Value.slice Ao ns.length co).ownBlock = none ∨ (Value.slice Ao ns.length co).ownBlock ≠ (Value.slice Ap ps.length cp).ownBlock)) (fun _ _ _ i _ => L.length - (intOf i).toNat)
    case atStart => exact ⟨0, [], [], 0, none, 0, none, 0, Nat.zero_le _, rfl, rfl, rfl, rfl, rfl, rfl, rfl, rfl, rfl, World.ownsRow_nil _ _ _ _, World.ownsRow_nil _ _ _ _, b3, D3.out, Apart.nil D3.out, Apart.nil D3.out, .inl rfl⟩
    case round =>
      obtain ⟨k, ns, ps, m, Ao, co, Ap, cp, hk, hns, hps, hm, hnl, hpl, rfl, rfl, rfl, rfl, ho, hp, hb, hd, ha1, ha2, hne⟩ := hrel
      have hbd := planSum_bd HL.out k hk
      rw [← hm] at hbd
      have Hns := Lib.hid hns
      have Hps := Lib.hid hps
      have Hm := Lib.hid hm
      have Ho := Lib.hid ho
      have Hp := Lib.hid hp
      have Hd := Lib.hid hd
      have Ha1 := Lib.hid ha1
      have Ha2 := Lib.hid ha2
      have Hne := Lib.hid hne
      have Hnl := Lib.hid hnl
      have Hpl := Lib.hid hpl
      have hnl' : ns.length ≤ 41 := by omega
      have hpl' : ps.length ≤ 41 := by omega
      have hsz := hb.size
      clear hns hps hm ho hp hd ha1 ha2 hne hnl hpl
      by_cases hlt : k < L.length
      · obtain ⟨b, hbe, hbl⟩ := orderBy_mem (dayKey L) L.length k hlt
        have S := Lib.hid (plan_snoc L (dayOrd L) (k := k) (by rw [dayOrd_len]; exact hlt) hbe)
        obtain ⟨A3', c3', hv3, _, _, hr3⟩ := Hd.out
        injection hv3 with hA3 _ hc3
        subst hA3
        subst hc3
        obtain ⟨g3, o3, rfl, hg3, d0⟩ := (show Rd wr wr.heap.size 1 A3 (dayOrd L).length (intsRow (dayOrd L)) by rw [dayOrd_len]; exact hr3).ints (k := k) (by rw [dayOrd_len]; exact hlt)
        rw [show intsAt (dayOrd L) k = b from hbe] at d0
        clear hbe hr3
        obtain ⟨g, o, rfl, hg, c0, c1, c2⟩ := (Hr2.out.below hb (Nat.le_refl _)).promise hbl
        have hmin := (HL.out.2 b hbl).2
        have i1 : (0 : Int) ≤ (k : Int) := Int.natCast_nonneg _
        have i2 : (k : Int) < (L.length : Int) := by omega
        have i3 : (0 : Int) ≤ (b : Int) := Int.natCast_nonneg _
        have i4 : (b : Int) < (L.length : Int) := by omega
        go_wp2_with (at_builtin; refine wpList_append_sl _ rfl (.tmp 27) (.tmp 33) _ rfl w2.heap.size 9 i0 _ 1 16 Try.underlying46 hi hz0 hz1 hz2 rfl (by omega) _ ns.length (strsRow ns) rfl (Ho.out.alloc _) (some ⟨wr.heap.size, 0, none⟩) 1 1 [.string (promiseAt L b).name] rfl (Rd.of_block (cs := #[.string (promiseAt L b).name]) (heap_alloc_new _ _) rfl) (by intro x hx; simp at hx; subst hx; rfl) (by unfold maxLen; omega) (by omega) (by simp <;> omega) ?_; intro A8 c8 w8 ho8 hg8 hor8)
        have b8 : Below w2.heap.size w2 w8 := (hb.alloc hsz _).grown hg8 (by simp; omega) (fun q hq => (World.ownsRow.lt Ho.out q hq).1)
        have Tp := Lib.hid (World.ownsRow.lt Hp.out)
        have O8 := Lib.hid ho8
        have P8 := Lib.hid (World.ownsRow.kept (Hp.out.alloc (.cells #[.string (promiseAt L b).name] 9)) hg8 (ne_symm Hne.out))
        have N8 := Lib.hid (ne_symm (apart_append (ne_symm Hne.out) (w := wr.alloc (.cells #[.string (promiseAt L b).name] 9)) (fun q hq => ⟨(Tp.out q hq).1, by have := (Tp.out q hq).2; simp; omega⟩) hor8))
        have D8 := Lib.hid (Sl.grown_apart (Hd.out.below ((Below.refl _ _).alloc (Nat.le_refl _) (.cells #[.string (promiseAt L b).name] 9))) hg8 (Ha1.out.mono (by simp)))
        have X8 := Lib.hid ((Ha1.out.mono (w' := wr.alloc (.cells #[.string (promiseAt L b).name] 9)) (by simp)).append hor8 hg8.size)
        have Y8 := Lib.hid (Ha2.out.mono (w' := w8) (by have := hg8.size; simp at this; omega))
        have hs8 := b8.size
        clear ho8 hg8 hor8
        go_wp2_with fail
        refine (implCeil_any _ _ _ ⟨by omega, by omega⟩ ⟨by omega, by omega⟩).mono ?_
        rintro e w9 ⟨rfl, rfl⟩
        go_wp2_with (at_builtin; refine wpList_append_sl _ rfl (.tmp 35) (.tmp 38) _ rfl w2.heap.size 2 j0 _ 1 8 Try.underlying59 hj hy0 hy1 hy2 rfl (by omega) _ ps.length (intsRow ps) rfl (P8.out.alloc _) (some ⟨w8.heap.size, 0, none⟩) 1 1 [.int .i64 (ceilI (m + (promiseAt L b).min) 420)] rfl (Rd.of_block (cs := #[.int .i64 (ceilI (m + (promiseAt L b).min) 420)]) (heap_alloc_new _ _) rfl) (by intro x hx; simp at hx; subst hx; rfl) (by unfold maxLen; omega) (by omega) (by simp <;> omega) ?_; intro A6 c6 w6 ho6 hg6 hor6)
        have b6 : Below w2.heap.size w2 w6 := (b8.alloc hs8 _).grown hg6 (by simp; omega) (fun q hq => (World.ownsRow.lt P8.out q hq).1)
        have O6 := Lib.hid (World.ownsRow.kept (O8.out.alloc (.cells #[.int .i64 (ceilI (m + (promiseAt L b).min) 420)] 2)) hg6 N8.out)
        have N6 := Lib.hid (apart_append N8.out (fun q hq => World.ownsRow.lt (O8.out.alloc (.cells #[.int .i64 (ceilI (m + (promiseAt L b).min) 420)] 2)) q hq) hor6)
        have D6 := Lib.hid (Sl.grown_apart (D8.out.below ((Below.refl _ _).alloc (Nat.le_refl _) (.cells #[.int .i64 (ceilI (m + (promiseAt L b).min) 420)] 2))) hg6 (Y8.out.mono (by simp)))
        have Y6 := Lib.hid ((Y8.out.mono (w' := w8.alloc (.cells #[.int .i64 (ceilI (m + (promiseAt L b).min) 420)] 2)) (by simp)).append hor6 hg6.size)
        have X6 := Lib.hid (X8.out.mono (w' := w6) (by have := hg6.size; simp at this; omega))
        have P6 := Lib.hid ho6
        clear ho6 hg6 hor6
        go_roundw
        case rel =>
          refine ⟨k + 1, ns ++ [(promiseAt L b).name], ps ++ [ceilI (m + (promiseAt L b).min) 420], m + (promiseAt L b).min, A8, c8, A6, c6, by omega, by rw [S.out.2.1, ← Hns.out], by rw [S.out.2.2, ← Hps.out, ← Hm.out], by rw [S.out.1, ← Hm.out], by rw [List.length_append, Hnl.out]; rfl, by rw [List.length_append, Hpl.out]; rfl, by go_num, rfl, by rw [List.length_append]; rfl, by rw [List.length_append]; rfl, ?_, ?_, b6, D6.out, ?_, ?_, ?_⟩
          · rw [List.length_append, strsRow_append]; exact O6.out
          · rw [List.length_append, intsRow_append]; exact P6.out
          · rw [List.length_append]; exact X6.out
          · rw [List.length_append]; exact Y6.out
          · rw [List.length_append, List.length_append]; exact N6.out
        case measure => simp [intOf]; omega
      · have hk2 : (dayOrd L).take k = dayOrd L := List.take_of_length_le (by rw [dayOrd_len]; omega)
        have H1 := Lib.hid (show workPlan L = (ns, ps, 0) by rw [H.out, Hns.out, Hps.out, hk2])
        clear hk2
        go_wp2
        go_ret3
        exact RetSSC.ok H1.out Ho.out rfl rfl Hp.out rfl rfl hs2 hs2 Hne.out (hb2.trans (hb.mono hs2))

set_option maxHeartbeats 4000000 in
theorem specWorkPlan_any (w : World) (L : List Promise) (v : Value) (hv : Sl w 3 v L.length (promiseRow L)) (hf : promiseFit L) (hn : L.length ≤ 4194304) :
    Calls Try.prog 51 #[v] w (RetSSC w.heap.size 9 1 strsRow 2 1 intsRow (workPlan L) w) := by
  have Hv := Lib.hid hv
  have Hf := Lib.hid hf
  clear hf
  cases h1 : arePromises L
  · have H := Lib.hid (show workPlan L = ([], [], 1) by simp [workPlan, h1])
    clear hv
    go_enter Try.func51, Try.ntmps51
    go_wp2_with fail
    refine (specArePromises_any w L v Hv.out Hf.out hn).mono ?_
    rintro e w2 ⟨rfl, hb2⟩
    rw [h1]
    go_wp2
    go_ret3
    exact RetSSC.ok H.out (World.ownsRow_nil _ _ _ _) rfl rfl (World.ownsRow_nil _ _ _ _) rfl rfl (Nat.le_refl _) (Nat.le_refl _) (.inl rfl) hb2
  · have hL40 := arePromises_le h1
    have HL := Lib.hid (promIn_of h1)
    have H := Lib.hid (show workPlan L = (planNames L (dayOrd L), planDays L (dayOrd L), 0) by simp [workPlan, h1])
    obtain ⟨i0, hi, hz0, hz1, hz2⟩ := info_parts Try.info_strs
    obtain ⟨j0, hj, hy0, hy1, hy2⟩ := info_parts Try.info_ints
    obtain ⟨A, c, rfl, hl, hc, hr⟩ := hv
    have Hr := Lib.hid hr
    clear hr hl hc
    go_enter Try.func51, Try.ntmps51
    go_wp2_with fail
    refine (specArePromises_any w L _ Hv.out Hf.out hn).mono ?_
    rintro e w2 ⟨rfl, hb2⟩
    rw [h1]
    go_wp2_with fail
    refine (specDayOrder_any _ L _ (Hv.out.below ((hb2.alloc hb2.size _).alloc (by have := hb2.size; simp; omega) _)) HL.out).mono ?_
    rintro e w3 ⟨y, rfl, ho3, hb3⟩
    obtain ⟨A3, c3, rfl, _, _⟩ := own_slice ho3
    have b3 : Below w2.heap.size w2 w3 := (((Below.refl _ _).alloc (Nat.le_refl _) _).alloc (by simp) _).trans (hb3.mono (by simp; omega))
    have n2 : World.ownsRow ((w2.alloc (.cells #[] 9)).alloc (.cells #[] 2)) w2.heap.size 9 1 (.slice (some ⟨w2.heap.size, 0, none⟩) 0 0) 0 [] := (own_empty w2 9 1 (Nat.le_refl _)).alloc _
    have m2 : World.ownsRow ((w2.alloc (.cells #[] 9)).alloc (.cells #[] 2)) w2.heap.size 2 1 (.slice (some ⟨w2.heap.size + 1, 0, none⟩) 0 0) 0 [] := own_empty' _ _ _ (by simp) (by simp)
    have N3 := Lib.hid (own_below n2 hb3)
    have M3 := Lib.hid (own_below m2 hb3)
    have Q1 := Lib.hid (Apart.fresh ho3 n2)
    have Q2 := Lib.hid (Apart.fresh ho3 m2)
    have D3 := Lib.hid (Sl.of_own ho3)
    clear ho3 n2 m2
    have hs2 := hb2.size
    have Hr2 := Lib.hid (Hr.out.below' hb2)
    have hs3 := b3.size
    go_wp2
    go_loopw [5, 6, 7, 9] (fun s t z i wr => ∃ (k : Nat) (ns : List ByteArray) (ps : List Int) (m : Int) (Ao : Option Addr) (co : Nat) (Ap : Option Addr) (cp : Nat), k ≤ L.length ∧ ns = planNames L ((dayOrd L).take k) ∧ ps = planDays L ((dayOrd L).take k) ∧ m = planSum L ((dayOrd L).take k) ∧ ns.length = k ∧ ps.length = k ∧ i = .int .i64 k ∧ z = .int .i64 m ∧ s = .slice Ao ns.length co ∧ t = .slice Ap ps.length cp ∧
        wr.ownsRow w2.heap.size 9 1 (.slice Ao ns.length co) ns.length (strsRow ns) ∧ wr.ownsRow w2.heap.size 2 1 (.slice Ap ps.length cp) ps.length (intsRow ps) ∧ Below w2.heap.size w2 wr ∧ Sl wr 1 (.slice A3 L.length c3) L.length (intsRow (dayOrd L)) ∧ Apart (.slice A3 L.length c3) (.slice Ao ns.length co) L.length wr ∧ Apart (.slice A3 L.length c3) (.slice Ap ps.length cp) L.length wr ∧ ((Value.slice Ao ns.length co).ownBlock = none ∨ (Value.slice Ao ns.length co).ownBlock ≠ (Value.slice Ap ps.length cp).ownBlock)) (fun _ _ _ i _ => L.length - (intOf i).toNat)
    case atStart => exact ⟨0, [], [], 0, some ⟨w2.heap.size, 0, none⟩, 0, some ⟨w2.heap.size + 1, 0, none⟩, 0, Nat.zero_le _, rfl, rfl, rfl, rfl, rfl, rfl, rfl, rfl, rfl, N3.out, M3.out, b3, D3.out, Q1.out, Q2.out, .inr (by simp [Value.ownBlock])⟩
    case round =>
      obtain ⟨k, ns, ps, m, Ao, co, Ap, cp, hk, hns, hps, hm, hnl, hpl, rfl, rfl, rfl, rfl, ho, hp, hb, hd, ha1, ha2, hne⟩ := hrel
      have hbd := planSum_bd HL.out k hk
      rw [← hm] at hbd
      have Hns := Lib.hid hns
      have Hps := Lib.hid hps
      have Hm := Lib.hid hm
      have Ho := Lib.hid ho
      have Hp := Lib.hid hp
      have Hd := Lib.hid hd
      have Ha1 := Lib.hid ha1
      have Ha2 := Lib.hid ha2
      have Hne := Lib.hid hne
      have Hnl := Lib.hid hnl
      have Hpl := Lib.hid hpl
      have hnl' : ns.length ≤ 41 := by omega
      have hpl' : ps.length ≤ 41 := by omega
      have hsz := hb.size
      clear hns hps hm ho hp hd ha1 ha2 hne hnl hpl
      by_cases hlt : k < L.length
      · obtain ⟨b, hbe, hbl⟩ := orderBy_mem (dayKey L) L.length k hlt
        have S := Lib.hid (plan_snoc L (dayOrd L) (k := k) (by rw [dayOrd_len]; exact hlt) hbe)
        obtain ⟨A3', c3', hv3, _, _, hr3⟩ := Hd.out
        injection hv3 with hA3 _ hc3
        subst hA3
        subst hc3
        obtain ⟨g3, o3, rfl, hg3, d0⟩ := (show Rd wr wr.heap.size 1 A3 (dayOrd L).length (intsRow (dayOrd L)) by rw [dayOrd_len]; exact hr3).ints (k := k) (by rw [dayOrd_len]; exact hlt)
        rw [show intsAt (dayOrd L) k = b from hbe] at d0
        clear hbe hr3
        obtain ⟨g, o, rfl, hg, c0, c1, c2⟩ := (Hr2.out.below hb (Nat.le_refl _)).promise hbl
        have hmin := (HL.out.2 b hbl).2
        have i1 : (0 : Int) ≤ (k : Int) := Int.natCast_nonneg _
        have i2 : (k : Int) < (L.length : Int) := by omega
        have i3 : (0 : Int) ≤ (b : Int) := Int.natCast_nonneg _
        have i4 : (b : Int) < (L.length : Int) := by omega
        go_wp2_with (at_builtin; obtain ⟨wb, hwb⟩ : ∃ wb, wb = wr.alloc (.cells #[.string (promiseAt L b).name, .int .i64 (promiseAt L b).day, .int .i64 (promiseAt L b).min] 43) := ⟨_, rfl⟩; have bb : Below w2.heap.size w2 wb := (by rw [hwb]; exact hb.alloc hsz _); have zb : wb.heap.size = wr.heap.size + 1 := (by rw [hwb, World.size_alloc]); have Ob := Lib.hid (show wb.ownsRow w2.heap.size 9 1 (.slice Ao ns.length co) ns.length (strsRow ns) by rw [hwb]; exact Ho.out.alloc _); have Pb := Lib.hid (show wb.ownsRow w2.heap.size 2 1 (.slice Ap ps.length cp) ps.length (intsRow ps) by rw [hwb]; exact Hp.out.alloc _); have Db := Lib.hid (show Sl wb 1 (.slice (some ⟨g3, o3, none⟩) L.length c3) L.length (intsRow (dayOrd L)) by rw [hwb]; exact Hd.out.below ((Below.refl _ _).alloc (Nat.le_refl _) _)); have B1 := Lib.hid (Ha1.out.mono (w' := wb) (by omega)); have B2 := Lib.hid (Ha2.out.mono (w' := wb) (by omega)); have hzb := bb.size; clear c0 c1 c2 d0; rw [← hwb]; clear hwb; refine wpList_append_sl _ rfl (.tmp 35) (.tmp 38) _ rfl w2.heap.size 9 i0 _ 1 16 Try.underlying46 hi hz0 hz1 hz2 rfl (by omega) _ ns.length (strsRow ns) rfl (Ob.out.alloc _) (some ⟨wr.heap.size + 1, 0, none⟩) 1 1 [.string (promiseAt L b).name] rfl (Rd.of_block (cs := #[.string (promiseAt L b).name]) (by rw [← zb] <;> exact heap_alloc_new _ _) rfl) (by intro x hx; simp at hx; subst hx; rfl) (by unfold maxLen; omega) (by omega) (by simp <;> omega) ?_; intro A8 c8 w8 ho8 hg8 hor8)
        have b8 : Below w2.heap.size w2 w8 := (bb.alloc hzb _).grown hg8 (by simp; omega) (fun q hq => (World.ownsRow.lt Ob.out q hq).1)
        have Tp := Lib.hid (World.ownsRow.lt Pb.out)
        have O8 := Lib.hid ho8
        have P8 := Lib.hid (World.ownsRow.kept (Pb.out.alloc (.cells #[.string (promiseAt L b).name] 9)) hg8 (ne_symm Hne.out))
        have N8 := Lib.hid (ne_symm (apart_append (ne_symm Hne.out) (w := wb.alloc (.cells #[.string (promiseAt L b).name] 9)) (fun q hq => ⟨(Tp.out q hq).1, by have := (Tp.out q hq).2; simp; omega⟩) hor8))
        have D8 := Lib.hid (Sl.grown_apart (Db.out.below ((Below.refl _ _).alloc (Nat.le_refl _) (.cells #[.string (promiseAt L b).name] 9))) hg8 (B1.out.mono (by simp)))
        have X8 := Lib.hid ((B1.out.mono (w' := wb.alloc (.cells #[.string (promiseAt L b).name] 9)) (by simp)).append hor8 hg8.size)
        have Y8 := Lib.hid (B2.out.mono (w' := w8) (by have := hg8.size; simp at this; omega))
        have hs8 := b8.size
        clear ho8 hg8 hor8
        go_wp2_with fail
        refine (specCeil_any _ _ _ ⟨by omega, by omega⟩ ⟨by omega, by omega⟩).mono ?_
        rintro e w9 ⟨rfl, rfl⟩
        go_wp2_with (at_builtin; refine wpList_append_sl _ rfl (.tmp 40) (.tmp 43) _ rfl w2.heap.size 2 j0 _ 1 8 Try.underlying59 hj hy0 hy1 hy2 rfl (by omega) _ ps.length (intsRow ps) rfl (P8.out.alloc _) (some ⟨w8.heap.size, 0, none⟩) 1 1 [.int .i64 (ceilI (m + (promiseAt L b).min) 420)] rfl (Rd.of_block (cs := #[.int .i64 (ceilI (m + (promiseAt L b).min) 420)]) (heap_alloc_new _ _) rfl) (by intro x hx; simp at hx; subst hx; rfl) (by unfold maxLen; omega) (by omega) (by simp <;> omega) ?_; intro A6 c6 w6 ho6 hg6 hor6)
        have b6 : Below w2.heap.size w2 w6 := (b8.alloc hs8 _).grown hg6 (by simp; omega) (fun q hq => (World.ownsRow.lt P8.out q hq).1)
        have O6 := Lib.hid (World.ownsRow.kept (O8.out.alloc (.cells #[.int .i64 (ceilI (m + (promiseAt L b).min) 420)] 2)) hg6 N8.out)
        have N6 := Lib.hid (apart_append N8.out (fun q hq => World.ownsRow.lt (O8.out.alloc (.cells #[.int .i64 (ceilI (m + (promiseAt L b).min) 420)] 2)) q hq) hor6)
        have D6 := Lib.hid (Sl.grown_apart (D8.out.below ((Below.refl _ _).alloc (Nat.le_refl _) (.cells #[.int .i64 (ceilI (m + (promiseAt L b).min) 420)] 2))) hg6 (Y8.out.mono (by simp)))
        have Y6 := Lib.hid ((Y8.out.mono (w' := w8.alloc (.cells #[.int .i64 (ceilI (m + (promiseAt L b).min) 420)] 2)) (by simp)).append hor6 hg6.size)
        have X6 := Lib.hid (X8.out.mono (w' := w6) (by have := hg6.size; simp at this; omega))
        have P6 := Lib.hid ho6
        clear ho6 hg6 hor6
        go_roundw
        case rel =>
          refine ⟨k + 1, ns ++ [(promiseAt L b).name], ps ++ [ceilI (m + (promiseAt L b).min) 420], m + (promiseAt L b).min, A8, c8, A6, c6, by omega, by rw [S.out.2.1, ← Hns.out], by rw [S.out.2.2, ← Hps.out, ← Hm.out], by rw [S.out.1, ← Hm.out], by rw [List.length_append, Hnl.out]; rfl, by rw [List.length_append, Hpl.out]; rfl, by go_num, rfl, by rw [List.length_append]; rfl, by rw [List.length_append]; rfl, ?_, ?_, b6, D6.out, ?_, ?_, ?_⟩
          · rw [List.length_append, strsRow_append]; exact O6.out
          · rw [List.length_append, intsRow_append]; exact P6.out
          · rw [List.length_append]; exact X6.out
          · rw [List.length_append]; exact Y6.out
          · rw [List.length_append, List.length_append]; exact N6.out
        case measure => simp [intOf]; omega
      · have hk2 : (dayOrd L).take k = dayOrd L := List.take_of_length_le (by rw [dayOrd_len]; omega)
        have H1 := Lib.hid (show workPlan L = (ns, ps, 0) by rw [H.out, Hns.out, Hps.out, hk2])
        clear hk2
        go_wp2
        go_ret3
        exact RetSSC.ok H1.out Ho.out rfl rfl Hp.out rfl rfl hs2 hs2 Hne.out (hb2.trans (hb.mono hs2))

end Go.Proofs.Ytgafjchbfbpmmaa
