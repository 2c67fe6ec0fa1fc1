/- Chains: the walk of l21Chains. -/
import Derived.Test.YtecfkomijaakhaaChW
import Derived.Test.YtecfkomijaakhaaOwnII
namespace Go.Proofs.Ytecfkomijaakhaa
open Go.RowKit

def chI (L : List Step) (f s : Nat) : List (List Int) := (chainsN L f s).map intN
def chOut (L : List Step) (f s q : Nat) : List (List Int) := [(s : Int)] :: ((stepAt L s).after.take q).flatMap fun j => (chI L f j.toNat).map (· ++ [(s : Int)])
theorem chOut_all (L : List Step) (f s : Nat) : chOut L f s (stepAt L s).after.length = chI L (f + 1) s := by
  rw [chOut, List.take_length, chI, chainsN, List.map_cons, List.map_flatMap]
  congr 1
  congr 1
  funext j
  simp [chI, intN]
theorem chOut_succ {L : List Step} {f s q j : Nat} (hq : q < (stepAt L s).after.length) (hj : intsAt (stepAt L s).after q = j) : chOut L f s (q + 1) = chOut L f s q ++ (chI L f j).map (· ++ [(s : Int)]) := by
  rw [intsAt_lt hq] at hj
  rw [chOut, chOut, List.take_succ_eq_append_getElem hq, List.flatMap_append, List.flatMap_singleton, hj, Int.toNat_natCast, List.cons_append]
theorem chI_count {L : List Step} (h : isRecipe L = true) (f s : Nat) (hs : s < L.length) : (chI L f s).length ≤ 10 ^ f := by
  rw [chI, List.length_map]; exact chains_count h f s hs
theorem chI_len {L : List Step} (h : isRecipe L = true) {f s : Nat} (hs : s < L.length) {k : Nat} : ((chI L f s).getD k []).length ≤ f := by
  rw [chI, List.getD, List.getElem?_map]
  cases e : (chainsN L f s)[k]? with
  | none => simp
  | some c =>
    have := (chains_sound h f s hs c (List.mem_of_getElem? e)).2.2
    simpa [intN] using this
theorem chOut_count {L : List Step} (h : isRecipe L = true) (f s : Nat) (hs : s < L.length) : ∀ q, q ≤ (stepAt L s).after.length → (chOut L f s q).length ≤ 1 + q * 10 ^ f
  | 0, _ => by simp [chOut]
  | q + 1, hq => by
    obtain ⟨_, hok, _⟩ := isRecipe_iff.1 h
    obtain ⟨j0, j1⟩ := steps_after hok hs (k := q) (by omega)
    obtain ⟨j, hj⟩ := Int.eq_ofNat_of_zero_le j0
    rw [chOut_succ (by omega) hj, List.length_append, List.length_map, Nat.succ_mul]
    have h1 := chOut_count h f s hs q (by omega)
    have h2 := chI_count h f j (by omega)
    omega
theorem take_map_snoc {P : List (List Int)} {k : Nat} (hk : k < P.length) (s : Int) : (P.take (k + 1)).map (· ++ [s]) = (P.take k).map (· ++ [s]) ++ [P.getD k [] ++ [s]] := by
  rw [List.take_succ_eq_append_getElem hk, List.map_append, List.getD, List.getElem?_eq_getElem hk]; rfl
theorem own_whole' (w : World) (cs : Array Value) (e size n g : Nat) {base : Nat} (hg : w.heap.size = g) (hb : base ≤ g) (hn : cs.size = n * size) (hm : n ≤ maxLen) : (w.alloc (.cells cs e)).ownsRow base e size (.slice (some ⟨g, 0, none⟩) n n) n cs.toList := by
  subst hg; exact own_whole w cs e size n hb hn hm
theorem ElemsII.single {w : World} {base : Nat} {u : Value} {p : List Int} (h : w.ownsRow base 2 1 u p.length (intsRow p)) : ElemsII w base [u] [p] :=
  ⟨rfl, fun i q hq => by
    cases i with
    | zero =>
      have : p = q := by simpa using hq
      subst this; exact ⟨u, rfl, h⟩
    | succ i => simp at hq⟩

/-- Another row of rows is written. -/
theorem OwnII.grown {w w' : World} {b b' base n : Nat} {v v' : Value} {PP : List (List Int)} {xs : List Value} (h : OwnII w b base v PP) (ho : w.ownsRow b' 29 1 v' n xs) (hg : w.grownBy w' v'.ownBlock) (ha : ∀ k, v.ownBlock = some k → v'.ownBlock ≠ some k) : OwnII w' b base v PP := by
  obtain ⟨vs, h1, h2⟩ := h
  refine ⟨vs, h1.kept hg ?_, h2.grown ho hg⟩
  cases e : v.ownBlock with
  | none => exact .inl rfl
  | some k => exact .inr (fun q => ha k e q.symm)
theorem OwnII.lt {w : World} {b base : Nat} {v : Value} {PP : List (List Int)} (h : OwnII w b base v PP) : ∀ k, v.ownBlock = some k → b ≤ k ∧ k < w.heap.size := by
  obtain ⟨vs, h1, _⟩ := h
  exact fun k hk => World.ownsRow.lt h1 k hk

set_option maxHeartbeats 8000000 in
theorem specChains_any (L : List Step) (h : isRecipe L = true) : ∀ (f : Nat) (w : World) (V : Value) (s : Nat), Steps w V L → s < L.length → intsAt (placeK L L.length) s < f → f ≤ 9 →
    Calls Try.prog 72 #[V, .int .i64 s] w fun e w' => ∃ u, e = .returned u ∧ OwnII w' w.heap.size w.heap.size u (chI L f s) ∧ Below w.heap.size w w' := by
  intro f
  induction f with
  | zero =>
    intro w V s _ hs hp _
    obtain ⟨q, _, _, hq⟩ := place_is h hs
    omega
  | succ f ih =>
    intro w V s hv hs hp hf9
    have HR := Lib.hid h
    obtain ⟨h9, hok, _⟩ := isRecipe_iff.1 h
    have Hok := Lib.hid hok
    have hv0 := Lib.hid hv
    obtain ⟨A, c, rfl, hl, hc, hr⟩ := hv
    unfold maxLen at hc
    obtain ⟨gs, os, rfl, hgs, d0, d1, B, cc, d2, hcc, hcm, hrd⟩ := hr.at hs
    have Hrd := Lib.hid hrd
    unfold maxLen at hcm
    have hll : (stepAt L s).after.length ≤ 9 := by
      have h0 := stepsOk_iff.1 hok s hs
      simp only [stepOk, Bool.and_eq_true] at h0
      have := rises_len9 h0.1.2
      omega
    have Haf := Lib.hid (fun k (hk : k < (stepAt L s).after.length) => steps_after hok hs (k := k) hk)
    have Hpl := Lib.hid (fun (j : Nat) (hj : (j : Int) ∈ (stepAt L s).after) => (after_place h hs hj).2)
    have HCO := Lib.hid (fun (q j : Nat) (hq : q < (stepAt L s).after.length) (hj : intsAt (stepAt L s).after q = (j : Nat)) => chOut_succ (f := f) hq hj)
    have HCA := Lib.hid (chOut_all L f s)
    have HCC := Lib.hid (chOut_count h f s hs)
    have HCI := Lib.hid (fun (j : Nat) (hj : j < L.length) => chI_count h f j hj)
    have hpow : 10 ^ f ≤ 100000000 := Nat.pow_le_pow_right (show 10 > 0 by omega) (show f ≤ 8 by omega)
    obtain ⟨PB, hPB⟩ : ∃ PB, PB = 10 ^ f := ⟨_, rfl⟩
    rw [← hPB] at hpow HCC HCI
    obtain ⟨l, hl0⟩ : ∃ l, l = (stepAt L s).after := ⟨_, rfl⟩
    rw [← hl0] at Hrd d2 hcc hll Haf Hpl HCO HCA HCC
    obtain ⟨i0, hi, hz0, hz1, hz2⟩ := info_parts Try.info_ints
    obtain ⟨j0, hj, hy0, hy1, hy2⟩ := info_parts Try.info_ii
    have hlS := Lib.hid (show chOut L f s 0 = [[(s : Int)]] by simp [chOut])
    clear hr hrd hok hPB hl0 d0 d1 h
    go_enter Try.func72, Try.ntmps72
    go_wp2
    go_loopw [5, 6] (fun o i wr => ∃ (q : Nat) (QQ : List (List Int)) (vs : List Value) (Ao : Option Addr) (co : Nat), q ≤ l.length ∧ i = .int .i64 q ∧ o = .slice Ao QQ.length co ∧ QQ = chOut L f s q ∧ wr.ownsRow w.heap.size 29 1 (.slice Ao QQ.length co) QQ.length vs ∧ ElemsII wr w.heap.size vs QQ ∧ Below w.heap.size w wr) (fun _ i _ => l.length - (intOf i).toNat)
    case atStart =>
      refine ⟨0, [[(s : Int)]], [.slice (some ⟨w.heap.size, 0, none⟩) 1 1], _, _, Nat.zero_le _, rfl, rfl, hlS.out.symm, ?_, ?_, ((Below.refl _ _).alloc (Nat.le_refl _) _).alloc (Nat.le_trans (Nat.le_refl _) (by simp)) _⟩
      · exact own_whole' _ #[.slice (some ⟨w.heap.size, 0, none⟩) 1 1] _ 1 1 (w.heap.size + 1) (by simp) (by omega) rfl (by simp [maxLen])
      · exact ElemsII.single (World.ownsRow.alloc (own_whole w #[.int .i64 (s : Int)] _ 1 1 (Nat.le_refl _) rfl (by simp [maxLen])) _)
    case round =>
      obtain ⟨q, QQ, vs, Ao, co, hq, rfl, rfl, hQ, ho, he, hb⟩ := hrel
      have HQ := Lib.hid hQ
      have hql := HCC.out q hq
      rw [← hQ] at hql
      have HO := Lib.hid ho
      have HE := Lib.hid he
      have Hb := Lib.hid hb
      have hsz := hb.size
      clear hQ ho he hb
      have D2 := (Hb.out.cell (p := ⟨gs, os + s * 3 + 2, none⟩) hgs).trans d2
      have k2 : (0 : Int) ≤ (s : Int) := Int.natCast_nonneg _
      have k3 : (s : Int) < (L.length : Int) := by omega
      by_cases hlt : q < l.length
      · have hqB : q * PB ≤ 9 * 100000000 := Nat.mul_le_mul (by omega) hpow
        obtain ⟨ga, oa, rfl, hga, a0⟩ := (show Rd w w.heap.size 1 B l.length (intsRow l) from Hrd.out).ints hlt
        obtain ⟨n0, n1⟩ := Haf.out q hlt
        obtain ⟨j, hje⟩ := Int.eq_ofNat_of_zero_le n0
        have hjl : j < L.length := by omega
        have hjp := Hpl.out j (by rw [← hje, intsAt_lt hlt]; exact List.getElem_mem hlt)
        have HS := Lib.hid (HCO.out q j hlt hje)
        have hcnt := HCI.out j hjl
        rw [hje] at a0
        have a1 := (Hb.out.cell (p := ⟨ga, oa + q, none⟩) hga).trans a0
        have k0 : (0 : Int) ≤ (q : Int) := Int.natCast_nonneg _
        have k1 : (q : Int) < (l.length : Int) := by omega
        have HI := Lib.hid (ih wr _ j (hv0.out.below Hb.out) hjl (by omega) (by omega))
        have HCL := Lib.hid (fun k => chI_len HR.out (f := f) hjl (k := k))
        obtain ⟨BI, hBI⟩ : ∃ BI, BI = chI L f j := ⟨_, rfl⟩
        rw [← hBI] at HI HS hcnt HCL
        clear a0 n0 n1 hje hjp hBI
        go_wp2_with fail
        refine HI.out.mono ?_
        rintro e w2 ⟨u2, rfl, hou, hb2⟩
        obtain ⟨A2, c2, rfl⟩ : ∃ A2 c2, u2 = .slice A2 BI.length c2 := by
          obtain ⟨vs2, ho2, _⟩ := hou
          obtain ⟨A2, c2, e2, _⟩ := own_slice ho2
          exact ⟨A2, c2, e2⟩
        have HOU := Lib.hid hou
        have Hb2 := Lib.hid (Hb.out.trans (hb2.mono Hb.out.size))
        have HO2 := Lib.hid (own_below HO.out hb2)
        have HE2 := Lib.hid (HE.out.below hb2)
        have HAP := Lib.hid (fun (k : Nat) (hk : (Value.slice A2 BI.length c2).ownBlock = some k) (hq : (Value.slice Ao QQ.length co).ownBlock = some k) => show False by
          have h1 := (HOU.out.lt k hk).1
          have h2 := (World.ownsRow.lt HO.out k hq).2
          omega)
        have hw2 := hb2.size
        clear hou HI hb2 a1 D2
        go_wp2
        go_loopw [5, 8] (fun o i wr' => ∃ (k : Nat) (QK : List (List Int)) (vk : List Value) (Ak : Option Addr) (ck : Nat), k ≤ BI.length ∧ i = .int .i64 k ∧ o = .slice Ak QK.length ck ∧ QK = QQ ++ (BI.take k).map (· ++ [(s : Int)]) ∧ wr'.ownsRow w.heap.size 29 1 (.slice Ak QK.length ck) QK.length vk ∧ ElemsII wr' w.heap.size vk QK ∧ OwnII wr' wr.heap.size wr.heap.size (.slice A2 BI.length c2) BI ∧ (∀ k, (Value.slice A2 BI.length c2).ownBlock = some k → (Value.slice Ak QK.length ck).ownBlock ≠ some k) ∧ Below w.heap.size w wr') (fun _ i _ => BI.length - (intOf i).toNat)
        case atStart => exact ⟨0, QQ, vs, Ao, co, Nat.zero_le _, rfl, rfl, by simp, HO2.out, HE2.out, HOU.out, fun k hk hq => HAP.out k hk hq, Hb2.out⟩
        case round =>
          clear HO HE HO2 HE2 HOU HAP Hb2
          rename World => wk
          obtain ⟨k, QK, vk, Ak, ck, hk, rfl, rfl, hQK, ho, he, hou, hap, hb⟩ := hrel
          have HQK := Lib.hid hQK
          have hqk : QK.length ≤ 1 + 9 * 100000000 + 100000000 := by
            have := congrArg List.length hQK
            rw [List.length_append, List.length_map, List.length_take] at this
            omega
          have HO := Lib.hid ho
          have HE := Lib.hid he
          have HOU := Lib.hid hou
          have HAP := Lib.hid hap
          have Hbk := Lib.hid hb
          have hszk := hb.size
          clear hQK ho he hou hap hb
          by_cases hlk : k < BI.length
          · obtain ⟨gB, Au, cu, rfl, hgB, _, c0, hoE⟩ := HOU.out.at_ hlk
            have HT := Lib.hid (take_map_snoc hlk (s : Int))
            have hEl := HCL.out k
            obtain ⟨E, hE⟩ : ∃ E, E = BI.getD k [] := ⟨_, rfl⟩
            rw [← hE] at HT hEl c0 hoE
            have HoE := Lib.hid hoE
            have m0 : (0 : Int) ≤ (k : Int) := Int.natCast_nonneg _
            have m1 : (k : Int) < (BI.length : Int) := by omega
            clear hE hoE
            go_wp2_with fail
            refine (specOwn_any wk E _ (Sl.of_own HoE.out) (by omega)).mono ?_
            rintro e w3 ⟨y, rfl, ho3, hb3⟩
            obtain ⟨A3, c3, rfl, _, _⟩ := own_slice ho3
            have Ho3 := Lib.hid ho3
            have hsz3 := hb3.size
            clear ho3
            clear c0
            go_wp2_with (at_builtin; first | (refine wpList_append_sl _ rfl (.tmp 43) (.tmp 45) _ rfl wk.heap.size 2 i0 _ 1 8 Try.underlying29 hi hz0 hz1 hz2 rfl (by omega) _ E.length (intsRow E) rfl (Ho3.out.alloc _) (some ⟨w3.heap.size, 0, none⟩) 1 1 [.int .i64 (s : Int)] rfl (Rd.of_block (cs := #[.int .i64 (s : Int)]) (heap_alloc_new _ _) rfl) (by intro x hx; simp at hx; subst hx; rfl) (by unfold maxLen; omega) (by omega) (by simp; omega) ?_; intro A9 c9 w9 ho9 hg9 hor9; have b9 : Below wk.heap.size wk w9 := (hb3.alloc hsz3 (.cells #[.int .i64 (s : Int)] 2)).grown hg9 (by simp; omega) (fun k hk => (World.ownsRow.lt Ho3.out k hk).1); have Ho9 := Lib.hid (show w9.ownsRow w.heap.size 2 1 (.slice A9 (E.length + 1) c9) (E ++ [(s : Int)]).length (intsRow (E ++ [(s : Int)])) from (by rw [List.length_append, intsRow_append]; exact own_base ho9 (by omega))); have HO9 := Lib.hid (own_below HO.out b9); have HE9 := Lib.hid (HE.out.below b9); have HOU9 := Lib.hid (HOU.out.below b9); have Hb9 := Lib.hid (Hbk.out.trans (b9.mono hszk)); have hsz9 := Hb9.out.size; clear ho9 hg9 hor9 b9) | (refine wpList_append_sl _ rfl (.tmp 38) (.tmp 47) _ rfl w.heap.size 29 j0 _ 1 24 Try.underlying70 hj hy0 hy1 hy2 rfl (by omega) _ QK.length vk rfl (HO9.out.alloc _) (some ⟨w9.heap.size, 0, none⟩) 1 1 [.slice A9 (E.length + 1) c9] rfl (Rd.of_block (cs := #[.slice A9 (E.length + 1) c9]) (heap_alloc_new _ _) rfl) (by intro x hx; simp at hx; subst hx; rfl) (by unfold maxLen; omega) (by omega) (by simp; omega) ?_; intro A7 c7 w7 ho7 hg7 hor7))
            have HE7 := Lib.hid (((HE9.out.below ((Below.refl _ _).alloc (Nat.le_refl _) _)).app (ElemsII.single (Ho9.out.alloc _))).grown (HO9.out.alloc _) hg7)
            have HO7 := Lib.hid ho7
            have HOU7 := Lib.hid ((HOU9.out.below ((Below.refl _ _).alloc (Nat.le_refl _) _)).grown (HO9.out.alloc _) hg7 HAP.out)
            have HAP7 := Lib.hid (fun (k : Nat) (hk : (Value.slice (some ⟨gB, 0, none⟩) BI.length c2).ownBlock = some k) (hq : (Value.slice A7 (QK.length + 1) c7).ownBlock = some k) => show False by
              have h1 := (HOU9.out.lt k hk).2
              rcases hor7 with h | h
              · exact HAP.out k hk (h.symm.trans hq)
              · rw [h] at hq
                injection hq with hq
                simp at hq
                omega)
            have Hb7 := Lib.hid ((Hb9.out.alloc hsz9 _).grown hg7 (by simp; omega) (fun k hk => (World.ownsRow.lt HO9.out k hk).1))
            clear ho7 hg7 hor7
            go_roundw
            case rel => exact ⟨k + 1, QK ++ [E ++ [(s : Int)]], vk ++ [.slice A9 (E.length + 1) c9], A7, c7, by omega, by go_num, by rw [List.length_append]; rfl, by rw [HQK.out, HT.out, List.append_assoc], by rw [List.length_append]; exact HO7.out, HE7.out, HOU7.out, by rw [List.length_append]; exact fun k hk hq => HAP7.out k hk hq, Hb7.out⟩
            case measure => simp [intOf]; omega
          · have hkn : k = BI.length := by omega
            have HQF := Lib.hid (show QK = chOut L f s (q + 1) by rw [HQK.out, HS.out, hkn, List.take_length, HQ.out])
            clear hkn
            go_wp2
            go_roundw
            case rel => exact ⟨q + 1, QK, vk, Ak, ck, by omega, by go_num, rfl, HQF.out, HO.out, HE.out, Hbk.out⟩
            case measure => simp [intOf]; omega
      · have hqn : q = l.length := by omega
        subst hqn
        go_wp2
        go_ret
        exact ⟨_, rfl, ⟨vs, by rw [← HCA.out, ← HQ.out]; exact HO.out, by rw [← HCA.out, ← HQ.out]; exact HE.out⟩, Hb.out⟩
end Go.Proofs.Ytecfkomijaakhaa
