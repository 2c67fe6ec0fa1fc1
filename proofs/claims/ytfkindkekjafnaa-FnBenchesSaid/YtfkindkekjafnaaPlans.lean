/- The walk of l22Plans: all plans, a list of lists. -/
import Derived.Test.YtfkindkekjafnaaLateM
import Derived.Test.YtfkindkekjafnaaDue
import Derived.Test.YtfkindkekjafnaaApart
namespace Go.Proofs.Ytfkindkekjafnaa
open Go.RowKit

theorem Try.info_ii : (Try.prog.info? 38).map (fun i => (i.zero, i.size, i.bytes)) = some (some (.slice none 0 0), 1, 24) := by kernel_rfl
/-- The elements of a row of slices: each a list of its own, in memory from 'base' on. -/
def ElemsII (w : World) (base : Nat) (vs : List Value) (PP : List (List Int)) : Prop :=
  vs.length = PP.length ∧ ∀ (i : Nat) (p : List Int), PP[i]? = some p → ∃ u, vs[i]? = some u ∧ w.ownsRow base 2 1 u p.length (intsRow p)
def OwnII (w : World) (b base : Nat) (v : Value) (PP : List (List Int)) : Prop :=
  ∃ vs : List Value, w.ownsRow b 38 1 v PP.length vs ∧ ElemsII w base vs PP
theorem ElemsII.nil (w : World) (base : Nat) : ElemsII w base [] [] := ⟨rfl, fun i p h => by simp at h⟩
theorem ElemsII.below {w w' : World} {base : Nat} {vs : List Value} {PP : List (List Int)} (h : ElemsII w base vs PP) (hb : Below w.heap.size w w') : ElemsII w' base vs PP :=
  ⟨h.1, fun i p hp => by obtain ⟨u, hu, ho⟩ := h.2 i p hp; exact ⟨u, hu, own_below ho hb⟩⟩
theorem ElemsII.app {w : World} {base : Nat} {vs us : List Value} {PP QQ : List (List Int)} (h : ElemsII w base vs PP) (k : ElemsII w base us QQ) : ElemsII w base (vs ++ us) (PP ++ QQ) := by
  refine ⟨by rw [List.length_append, List.length_append, h.1, k.1], fun i p hp => ?_⟩
  by_cases hi : i < PP.length
  · rw [List.getElem?_append_left hi] at hp
    obtain ⟨u, hu, ho⟩ := h.2 i p hp
    exact ⟨u, by rw [List.getElem?_append_left (by rw [h.1]; exact hi)]; exact hu, ho⟩
  · rw [List.getElem?_append_right (by omega)] at hp
    obtain ⟨u, hu, ho⟩ := k.2 _ p hp
    exact ⟨u, by rw [List.getElem?_append_right (by rw [h.1]; omega), h.1]; exact hu, ho⟩
/-- A row of slices is written: its elements, rows of numbers, lie elsewhere. -/
theorem ElemsII.grown {w w' : World} {base b n : Nat} {v : Value} {vs xs : List Value} {PP : List (List Int)} (h : ElemsII w base vs PP) (ho : w.ownsRow b 38 1 v n xs) (hg : w.grownBy w' v.ownBlock) : ElemsII w' base vs PP :=
  ⟨h.1, fun i p hp => by
    obtain ⟨u, hu, hou⟩ := h.2 i p hp
    exact ⟨u, hu, hou.kept hg (own_type_apart hou ho (by decide))⟩⟩
theorem ElemsII.one {w : World} {base : Nat} {vs : List Value} {PP : List (List Int)} (h : ElemsII w base vs PP) : ∀ u ∈ vs, u.oneCell' = true := by
  intro u hu
  obtain ⟨i, hi, rfl⟩ := List.mem_iff_getElem.1 hu
  have hi2 : i < PP.length := by rw [← h.1]; exact hi
  obtain ⟨u', hu', ho⟩ := h.2 i (PP[i]) (List.getElem?_eq_getElem hi2)
  rw [List.getElem?_eq_getElem hi] at hu'
  injection hu' with hu'
  rw [hu']
  obtain ⟨A, c, e, _⟩ := own_slice ho
  rw [e]; rfl
/-- Element i, as the walk reads it. -/
theorem OwnII.at_ {w : World} {b base c : Nat} {A : Option Addr} {m : Nat} {PP : List (List Int)} (h : OwnII w b base (.slice A m c) PP) {i : Nat} (hi : i < PP.length) :
    ∃ g Au cu, A = some ⟨g, 0, none⟩ ∧ g < w.heap.size ∧ m = PP.length ∧ w.cell? ⟨g, i, none⟩ = some (.slice Au (PP.getD i []).length cu) ∧ w.ownsRow base 2 1 (.slice Au (PP.getD i []).length cu) (PP.getD i []).length (intsRow (PP.getD i [])) := by
  obtain ⟨vs, ho, he⟩ := h
  obtain ⟨g, c', hv, h1, h2⟩ := own_form ho (by omega)
  injection hv with hv1 hv2 hv3
  subst hv1
  subst hv2
  subst hv3
  have hp : PP[i]? = some (PP.getD i []) := by simp [List.getD, List.getElem?_eq_getElem hi]
  obtain ⟨u, hu, hou⟩ := he.2 i _ hp
  obtain ⟨Au, cu, rfl, _⟩ := own_slice hou
  exact ⟨g, Au, cu, rfl, h2, rfl, (ho.cellAt i (by omega)).trans hu, hou⟩
theorem OwnII.below {w w' : World} {b base : Nat} {v : Value} {PP : List (List Int)} (h : OwnII w b base v PP) (hb : Below w.heap.size w w') : OwnII w' b base v PP := by
  obtain ⟨vs, ho, he⟩ := h
  exact ⟨vs, own_below ho hb, he.below hb⟩
/-! ### How many plans -/
def plansUpTo (n f : Nat) (P : List Int) (q : Nat) : List (List Int) := (List.range q).flatMap fun (i : Nat) => if (i : Int) ∈ P then [] else plansR n f (P ++ [(i : Int)])
theorem plansUpTo_succ (n f : Nat) (P : List Int) (q : Nat) : plansUpTo n f P (q + 1) = plansUpTo n f P q ++ (if (q : Int) ∈ P then [] else plansR n f (P ++ [(q : Int)])) := by
  simp [plansUpTo, List.range_succ, List.flatMap_append]
theorem plansUpTo_all (n f : Nat) (P : List Int) : plansUpTo n f P n = plansR n (f + 1) P := rfl
theorem plans_count {n : Nat} (hn : n ≤ 7) : ∀ f P, (plansR n f P).length ≤ 7 ^ f := by
  intro f
  induction f with
  | zero => intro P; simp [plansR]
  | succ f ih =>
    intro P
    have key : ∀ q, (plansUpTo n f P q).length ≤ q * 7 ^ f := by
      intro q
      induction q with
      | zero => simp [plansUpTo]
      | succ q ihq =>
        rw [plansUpTo_succ, List.length_append, Nat.succ_mul]
        have : (if (q : Int) ∈ P then [] else plansR n f (P ++ [(q : Int)])).length ≤ 7 ^ f := by
          split
          · simp
          · exact ih _
        omega
    have h1 := key n
    rw [← plansUpTo_all, Nat.pow_succ, Nat.mul_comm]
    exact Nat.le_trans h1 (Nat.mul_le_mul_right _ hn)
theorem plansUpTo_count {n : Nat} (hn : n ≤ 7) (f : Nat) (P : List Int) : ∀ q, (plansUpTo n f P q).length ≤ q * 7 ^ f := by
  intro q
  induction q with
  | zero => simp [plansUpTo]
  | succ q ihq =>
    rw [plansUpTo_succ, List.length_append, Nat.succ_mul]
    have : (if (q : Int) ∈ P then [] else plansR n f (P ++ [(q : Int)])).length ≤ 7 ^ f := by
      split
      · simp
      · exact plans_count hn f _
    omega

set_option maxHeartbeats 8000000 in
theorem specPlans_any (n : Nat) (hn : n ≤ 7) : ∀ (f : Nat) (w : World) (P : List Int) (v : Value) (base : Nat), w.ownsRow base 2 1 v P.length (intsRow P) → base ≤ w.heap.size → P.length + f = n → f ≤ 7 →
    Calls Try.prog 67 #[.int .i64 n, v] w fun e w' => ∃ u, e = .returned u ∧ OwnII w' w.heap.size base u (plansR n f P) ∧ Below w.heap.size w w' := by
  intro f
  induction f with
  | zero =>
    intro w P v base ho hbase hl _
    obtain ⟨A, c, rfl, hc1, hc2⟩ := own_slice ho
    have Ho := Lib.hid ho
    have t0 : ((P.length : Int) == (n : Int)) = true := by simp; omega
    clear ho
    go_enter Try.func67, Try.ntmps67
    go_wp2
    go_ret
    refine ⟨_, rfl, ⟨[.slice A P.length c], ?_, rfl, fun i p hp => ?_⟩, (Below.refl _ _).alloc (Nat.le_refl _) _⟩
    · exact own_whole w #[.slice A P.length c] _ 1 1 (Nat.le_refl _) rfl (by simp [maxLen])
    · cases i with
      | zero =>
        have hp' : P = p := by simpa [plansR] using hp
        subst hp'
        exact ⟨_, rfl, Ho.out.alloc _⟩
      | succ i => simp [plansR] at hp
  | succ f ih =>
    intro w P v base ho hbase hl hf7
    obtain ⟨A, c, rfl, hc1, hc2⟩ := own_slice ho
    unfold maxLen at hc2
    have Ho := Lib.hid ho
    have t0 : ((P.length : Int) == (n : Int)) = false := by simp; omega
    obtain ⟨i0, hi, hz0, hz1, hz2⟩ := info_parts Try.info_ints
    obtain ⟨j0, hj, hy0, hy1, hy2⟩ := info_parts Try.info_ii
    have hcnt := Lib.hid (plansUpTo_count hn f P)
    have hcn2 := Lib.hid (plans_count hn f)
    have hpow : 7 ^ f ≤ 823543 := Nat.pow_le_pow_right (show 7 > 0 by omega) (show f ≤ 7 by omega)
    obtain ⟨B, hB⟩ : ∃ B, B = 7 ^ f := ⟨_, rfl⟩
    rw [← hB] at hcnt hcn2 hpow
    clear ho hB
    go_enter Try.func67, Try.ntmps67
    go_wp2
    go_loopw [5, 6] (fun o i wr => ∃ (q : Nat) (QQ : List (List Int)) (vs : List Value) (Ao : Option Addr) (co : Nat), q ≤ n ∧ i = .int .i64 q ∧ o = .slice Ao QQ.length co ∧ QQ = plansUpTo n f P q ∧ wr.ownsRow w.heap.size 38 1 (.slice Ao QQ.length co) QQ.length vs ∧ ElemsII wr base vs QQ ∧ Below w.heap.size w wr) (fun _ i _ => n - (intOf i).toNat)
    case atStart => exact ⟨0, [], [], _, _, Nat.zero_le _, rfl, rfl, rfl, own_empty _ _ _ (Nat.le_refl _), ElemsII.nil _ _, (Below.refl _ _).alloc (Nat.le_refl _) _⟩
    case round =>
      obtain ⟨q, QQ, vs, Ao, co, hq, rfl, rfl, hQ, ho, he, hb⟩ := hrel
      have HQ := Lib.hid hQ
      have hql := hcnt.out q
      rw [← hQ] at hql
      have HO := Lib.hid ho
      have HE := Lib.hid he
      have Hb := Lib.hid hb
      have hsz := hb.size
      have Hor := Lib.hid (own_below Ho.out hb)
      clear hQ ho he hb
      by_cases hlt : q < n
      · have i1 : (q : Int) < (n : Int) := by omega
        have hqB : q * B ≤ 7 * 823543 := Nat.mul_le_mul (by omega) hpow
        go_wp2_with fail
        refine (specHas_any _ P _ q (Sl.of_own Hor.out)).mono ?_
        rintro e w3 ⟨rfl, rfl⟩
        by_cases hm : (q : Int) ∈ P
        · have t1 : decide ((q : Int) ∈ P) = true := by simpa using hm
          have HS := Lib.hid (show plansUpTo n f P (q + 1) = plansUpTo n f P q by rw [plansUpTo_succ, if_pos hm, List.append_nil])
          rw [t1]
          clear hm t1
          go_wp2
          go_roundw
          case rel => exact ⟨q + 1, QQ, vs, Ao, co, by omega, by go_num, rfl, by rw [HS.out]; exact HQ.out, HO.out, HE.out, Hb.out⟩
          case measure => simp [intOf]; omega
        · have t1 : decide ((q : Int) ∈ P) = false := by simpa using hm
          have HS := Lib.hid (show plansUpTo n f P (q + 1) = plansUpTo n f P q ++ plansR n f (P ++ [(q : Int)]) by rw [plansUpTo_succ, if_neg hm])
          rw [t1]
          clear hm t1
          go_wp2_with fail
          refine (specOwn_any _ P _ (Sl.of_own Hor.out) (by omega)).mono ?_
          rintro e w4 ⟨y, rfl, ho4, hb4⟩
          obtain ⟨A4, c4, rfl, _, _⟩ := own_slice ho4
          have Ho4F := Lib.hid ho4
          have hsz4 := hb4.size
          clear ho4
          go_wp2_with (at_builtin; refine wpList_append_sl _ rfl (.tmp 26) (.tmp 28) _ rfl wr.heap.size 2 i0 _ 1 8 Try.underlying38 hi hz0 hz1 hz2 rfl (by omega) _ P.length (intsRow P) rfl (Ho4F.out.alloc _) (some ⟨w4.heap.size, 0, none⟩) 1 1 [.int .i64 (q : Int)] rfl (Rd.of_block (cs := #[.int .i64 (q : Int)]) (heap_alloc_new _ _) rfl) (by intro x hx; simp at hx; subst hx; rfl) (by unfold maxLen; omega) (by omega) (by simp; omega) ?_; intro A5 c5 w5 ho5 hg5 hor5)
          have b5 : Below wr.heap.size wr w5 := (hb4.alloc hsz4 (.cells #[.int .i64 (q : Int)] 2)).grown hg5 (by simp; omega) (fun k hk => (World.ownsRow.lt Ho4F.out k hk).1)
          have Ho5 := Lib.hid (show w5.ownsRow base 2 1 (.slice A5 (P.length + 1) c5) (P ++ [(q : Int)]).length (intsRow (P ++ [(q : Int)])) by rw [List.length_append, intsRow_append]; exact own_base ho5 (by omega))
          have HO5 := Lib.hid (own_below HO.out b5)
          have HE5 := Lib.hid (HE.out.below b5)
          have Hb5 := Lib.hid (Hb.out.trans (b5.mono hsz))
          have hsz5 := Hb5.out.size
          clear ho5 hg5 hor5 b5 hb4
          have HI := Lib.hid (ih w5 (P ++ [(q : Int)]) (.slice A5 (P.length + 1) c5) base Ho5.out (by omega) (by simp; omega) (by omega))
          go_wp2_with fail
          refine HI.out.mono ?_
          rintro e w6 ⟨u6, rfl, ⟨us, hou, heu⟩, hb6⟩
          obtain ⟨A6, c6, rfl, _, _⟩ := own_slice hou
          have HU6 := Lib.hid hou
          have HEU := Lib.hid heu
          have HO6 := Lib.hid (own_below HO5.out hb6)
          have HE6 := Lib.hid (HE5.out.below hb6)
          have Hb6 := Lib.hid (Hb5.out.trans (hb6.mono Hb5.out.size))
          have hsz6 := Hb6.out.size
          have hcu := hcn2.out (P ++ [(q : Int)])
          obtain ⟨RR, hRR⟩ : ∃ RR, RR = plansR n f (P ++ [(q : Int)]) := ⟨_, rfl⟩
          rw [← hRR] at HU6 HEU hcu HS ⊢
          clear hou heu hb6 hRR HI
          go_wp2_with (at_builtin; refine wpList_append_sl _ rfl (.tmp 23) (.tmp 30) _ rfl w.heap.size 38 j0 _ 1 24 Try.underlying69 hj hy0 hy1 hy2 rfl (by omega) _ QQ.length vs rfl HO6.out A6 RR.length c6 us rfl (Rd.of_own HU6.out) HEU.out.one (by unfold maxLen; omega) (by omega) (by omega) ?_; intro A9 c9 w9 ho9 hg9 hor9)
          have HE9 := Lib.hid ((HE6.out.app HEU.out).grown HO6.out hg9)
          have HO9 := Lib.hid ho9
          have Hb9 := Lib.hid (Hb6.out.grown hg9 hsz6 (fun k hk => (World.ownsRow.lt HO6.out k hk).1))
          clear ho9 hg9 hor9
          go_roundw
          case rel => exact ⟨q + 1, QQ ++ RR, vs ++ us, A9, c9, by omega, by go_num, by rw [List.length_append], by rw [HS.out, HQ.out], by rw [List.length_append]; exact HO9.out, HE9.out, Hb9.out⟩
          case measure => simp [intOf]; omega
      · have hqn : q = n := by omega
        subst hqn
        go_wp2
        go_ret
        exact ⟨_, rfl, ⟨vs, by rw [← plansUpTo_all, ← HQ.out]; exact HO.out, by rw [← plansUpTo_all, ← HQ.out]; exact HE.out⟩, Hb.out⟩
end Go.Proofs.Ytfkindkekjafnaa
