/- A queue: a slice of one-cell elements that loses its head and is appended to, one element a time; it may begin inside its block. No function of the program here. -/
import Derived.Test.YtecfkomijaakhaaApp
namespace Go.Proofs.Ytecfkomijaakhaa
open Go.RowKit

def Qu (w : World) (base : Nat) (e : TypeId) (v : Value) (n : Nat) (xs : List Value) : Prop :=
  xs.length = n ∧ ∃ g o cap cur, v = .slice (some ⟨g, o, none⟩) n cap ∧ base ≤ g ∧ w.heap[g]? = some (.cells cur e (0, 0)) ∧ n ≤ cap ∧ cap ≤ maxLen ∧ o + cap ≤ cur.size ∧ ∀ j u, xs[j]? = some u → cur[o + j]? = some u
section
variable {w w' : World} {base n : Nat} {e : TypeId} {v : Value} {xs : List Value}
theorem Qu.lt (h : Qu w base e v n xs) : ∀ g, v.ownBlock = some g → base ≤ g ∧ g < w.heap.size := by
  obtain ⟨_, g, o, cap, cur, rfl, hb, hh, _⟩ := h
  intro g' hg'
  have : g = g' := by simpa [Value.ownBlock] using hg'
  subst this
  exact ⟨hb, (Array.getElem?_eq_some_iff.1 hh).1⟩
theorem Qu.kept {row : Option Nat} (h : Qu w base e v n xs) (hg : w.grownBy w' row) (hr : v.ownBlock ≠ row) : Qu w' base e v n xs := by
  obtain ⟨h0, g, o, cap, cur, rfl, hb, hh, r⟩ := h
  exact ⟨h0, g, o, cap, cur, rfl, hb, (hg.block g (Array.getElem?_eq_some_iff.1 hh).1 (fun e => hr (by rw [← e]; rfl))).trans hh, r⟩
theorem Qu.below (h : Qu w base e v n xs) (hb : Below w.heap.size w w') : Qu w' base e v n xs := h.kept (below_grown hb none) (by obtain ⟨_, g, o, cap, cur, rfl, _⟩ := h; simp [Value.ownBlock])
theorem Qu.drewN (h : Qu w base e v n xs) (k : Nat) : Qu (w.drewN k) base e v n xs := h
theorem Qu.slice (h : Qu w base e v n xs) : ∃ g o c, v = .slice (some ⟨g, o, none⟩) n c ∧ n ≤ c ∧ c ≤ maxLen := by
  obtain ⟨_, g, o, cap, cur, rfl, _, _, h1, h2, _⟩ := h
  exact ⟨g, o, cap, rfl, h1, h2⟩
theorem Qu.caps {A : Option Addr} {m c : Nat} (h : Qu w base e (.slice A m c) n xs) : n ≤ c ∧ c ≤ maxLen := by
  obtain ⟨_, g', o', cap, cur, hv, _, _, h1, h2, _⟩ := h
  injection hv with _ _ e3
  subst e3
  exact ⟨h1, h2⟩
theorem Qu.cell {g o c : Nat} (h : Qu w base e (.slice (some ⟨g, o, none⟩) n c) n xs) {j : Nat} {u : Value} (hj : xs[j]? = some u) : w.cell? ⟨g, o + j, none⟩ = some u := by
  obtain ⟨_, g', o', cap, cur, hv, _, hh, _, _, _, hc⟩ := h
  injection hv with e1 _ _
  injection e1 with e1
  injection e1 with e1 e2
  subst e1; subst e2
  rw [cell_of_row w g (o + j) cur e (0, 0) hh]
  exact hc j u hj
/-- Behind its head. -/
theorem Qu.tail {g o c : Nat} {x : Value} (h : Qu w base e (.slice (some ⟨g, o, none⟩) (n + 1) c) (n + 1) (x :: xs)) {o' c' : Nat} (hc : c' = c - 1) (ho : o' = o + 1 ∨ (c' = 0 ∧ o' = o)) : Qu w base e (.slice (some ⟨g, o', none⟩) n c') n xs := by
  obtain ⟨h0, g', o1, cap, cur, hv, hb, hh, h1, h2, h3, hcell⟩ := h
  injection hv with e1 _ e3
  injection e1 with e1
  injection e1 with e1 e2
  subst e1; subst e2; subst e3
  have hn : xs.length = n := by simpa using h0
  rcases ho with rfl | h0'
  · refine ⟨hn, g, o + 1, c', cur, rfl, hb, hh, by omega, by omega, by omega, fun j u hj => ?_⟩
    have := hcell (j + 1) u (by simpa using hj)
    rwa [show o + 1 + j = o + (j + 1) by omega]
  · obtain ⟨hc0, rfl⟩ := h0'
    have hn0 : n = 0 := by omega
    subst hn0
    have hx : xs = [] := List.eq_nil_of_length_eq_zero hn
    subst hx
    exact ⟨rfl, g, o', c', cur, rfl, hb, hh, Nat.zero_le _, by omega, by omega, fun j u hj => by simp at hj⟩
theorem Qu.of_own (h : w.ownsRow base e 1 v n xs) (hn : 0 < n) : Qu w base e v n xs := by
  obtain ⟨hl, h2⟩ := h
  rcases h2 with ⟨_, h0⟩ | ⟨g, cap, cur, rfl, hb, hh, h1, h3, h4, h5⟩
  · omega
  · refine ⟨by omega, g, 0, cap, cur, rfl, hb, hh, h1, h3, by omega, fun j u hj => ?_⟩
    rw [← h5] at hj
    rw [List.getElem?_take] at hj
    split at hj
    · rw [Nat.zero_add]; simpa using hj
    · cases hj
end
section
variable {P : Program} (w : World)
theorem run_append_qu (base : Nat) (t ty e : TypeId) (i : TypeInfo) (z : Value) (bytes : Nat) (ht : P.underlying t = some (.slice e)) (hi : P.info? e = some i) (hz : i.zero = some z)
    (hsize : i.size = 1) (hby : i.bytes = bytes) (hzs : z.cells.size = 1)
    (v : Value) (n : Nat) (xs : List Value) (hq : Qu w base e v n xs) (ad : Addr) (c : Nat) (u : Value) (hu : w.cell? ad = some u) (h1 : u.oneCell' = true)
    (h63 : n + 1 ≤ maxLen) (hbytes : (n + 1) * bytes ≤ 140737488355328) (hbase : base ≤ w.heap.size) :
    ∃ v' w', (Builtin.append_ #[t, t] ty #[v, .slice (some ad) 1 c]).run P w = .ok v' w' ∧ Qu w' base e v' (n + 1) (xs ++ [u]) ∧ w.grownBy w' v.ownBlock := by
  have hsmall : n + 1 ≤ 9223372036854775807 := by simp only [maxLen] at h63; omega
  obtain ⟨hl, g, o, cap, cur, rfl, hb, hh, hnc, hcm, hcs, hcell⟩ := hq
  have hnews : ∀ j v, [u][j]? = some v → w.cell? (ad.add j) = some v := by
    intro j v hj
    cases j with
    | zero => simp at hj; subst hj; rw [show ad.add 0 = ad from by simp [Addr.add]]; exact hu
    | succ j => simp at hj
  have hl1 : [u].length = 1 * i.size := by rw [hsize]; rfl
  by_cases hroom : n + 1 ≤ cap
  · have hf := run_firstCells_some (P := P) w i.size 1 ad 1 c [u] hl1 hnews
    have hst := run_storeCells_at P g (o + n) e [u] 0 cur w hh (by simp; omega) (by intro x hx; simp at hx; subst hx; exact h1)
    simp only [Nat.add_zero] at hst
    refine ⟨.slice (some ⟨g, o, none⟩) (n + 1) cap, w.setRow g (cur.toList.take (o + n) ++ [u] ++ cur.toList.drop (o + n + 1)).toArray, ?_, ⟨by simp [hl], g, o, cap, _, rfl, hb, setRow_heap w g cur _ e _ hh, hroom, hcm, ?_, ?_⟩, ⟨rfl, rfl, rfl, by simp [World.setRow], fun k _ hk => setRow_other w g k _ (fun e => hk (by simp [Value.ownBlock, e]))⟩⟩
    · have hs1 : i.size = 1 := hsize
      simp [Builtin.append_, run_underlying ht, sizeOf, typeInfo, hi, Builtin.lenOf, hroom, hf, Addr.add_lit, hs1] at hst hf ⊢
      simp [hf, hst]
    · simp; omega
    · intro j x hj
      rw [List.getElem?_append] at hj
      have hsz : (cur.toList.take (o + n)).length = o + n := by simp; omega
      simp only [List.getElem?_toArray]
      split at hj
      · rename_i hlt
        have := hcell j x hj
        rw [List.append_assoc, List.getElem?_append_left (by rw [hsz]; omega), List.getElem?_take, if_pos (by omega)]
        simpa using this
      · rename_i hlt
        have hj0 : j - xs.length = 0 := by
          rcases Nat.eq_zero_or_pos (j - xs.length) with h | h
          · exact h
          · obtain ⟨m, hm⟩ : ∃ m, j - xs.length = m + 1 := ⟨j - xs.length - 1, by omega⟩
            rw [hm] at hj; simp at hj
        rw [hj0] at hj
        have hjn : j = n := by omega
        subst hjn
        rw [List.append_assoc, List.getElem?_append_right (by rw [hsz]; exact Nat.le_refl _), hsz, Nat.sub_self]
        simpa using hj
  · have holds : ∀ j v, xs[j]? = some v → w.cell? ((⟨g, o, none⟩ : Addr).add j) = some v := by
      intro j x hj
      rw [Addr.add_lit, cell_of_row w g (o + j) cur e (0, 0) hh]
      exact hcell j x hj
    have hr := run_append_grow (P := P) w t ty e i z ht hi hz ⟨g, o, none⟩ n cap xs (by rw [hsize, hl, Nat.mul_one]) holds ad 1 c [u] hl1 hnews (by omega) (by omega) (growslice_fits (by omega) (by rw [hby]; exact hbytes))
    have hge := grownCap_ge w (n + 1) cap e
    have hcm2 : grownCap w (n + 1) cap e ≤ maxLen := grownCap_le_maxLen w (n + 1) cap e h63
    refine ⟨_, _, hr, ⟨by simp [hl], w.heap.size, 0, _, _, rfl, hbase, heap_alloc_new w.drew _, hge, hcm2, ?_, ?_⟩, ⟨rfl, rfl, rfl, by simp, fun k hk _ => Below.heap_alloc w.drew _ k hk⟩⟩
    · simp only [Array.size_append, List.size_toArray, size_zeroCells, hzs, hl, List.length_singleton]
      omega
    · intro j x hj
      rw [Nat.zero_add]
      have hlt : j < (xs ++ [u]).length := (List.getElem?_eq_some_iff.1 hj).1
      rw [Array.getElem?_append_left (by simp; simpa using hlt)]
      rw [← hj]
      simp

theorem wpList_append_qu {ops : Array Oper} {rest : List Oper} {o : Oper} {a : Act} {Q : Exit → Act → World → Prop} (hgd : o.guard = none) (s x : Operand) (t : TypeId)
    (ho : o.op = .call { callee := .builtin .append, args := #[s, x], argTypes := #[t, t] })
    (base : Nat) (e : TypeId) (i : TypeInfo) (z : Value) (bytes : Nat) (ht : P.underlying t = some (.slice e)) (hi : P.info? e = some i) (hz : i.zero = some z)
    (hsize : i.size = 1) (hby : i.bytes = bytes) (hzs : z.cells.size = 1)
    (v : Value) (n : Nat) (xs : List Value) (hs : a.eval s = v) (hq : Qu w base e v n xs)
    (ad : Addr) (c : Nat) (u : Value) (hx : a.eval x = .slice (some ad) 1 c) (hu : w.cell? ad = some u) (h1 : u.oneCell' = true)
    (h63 : n + 1 ≤ maxLen) (hbytes : (n + 1) * bytes ≤ 140737488355328) (hbase : base ≤ w.heap.size)
    (h : ∀ g o' c' w', Qu w' base e (.slice (some ⟨g, o', none⟩) (n + 1) c') (n + 1) (xs ++ [u]) → w.grownBy w' v.ownBlock → wpList P ops Q rest (a.put o.dst (.slice (some ⟨g, o', none⟩) (n + 1) c')) w') : wpList P ops Q (o :: rest) a w := by
  refine wpList_plain hgd fun K hK => ?_
  obtain ⟨v', w', hrun, h2, h3⟩ := run_append_qu (P := P) w base t o.type e i z bytes ht hi hz hsize hby hzs v n xs hq ad c u hu h1 h63 hbytes hbase
  obtain ⟨g, o', c', rfl, _, _⟩ := h2.slice
  unfold Oper.wp execOp
  simp only [ho, resolve, invoke, builtin, Sem.run_bind, Sem.run_pure, Result.andThen_ok, List.map_toArray, List.map_cons, List.map_nil, hs, hx, hrun]
  exact hK _ _ (h g o' c' w' h2 h3)
end

end Go.Proofs.Ytecfkomijaakhaa
