/- The code argument of the great laws. -/
import Derived.Test.YtecfkomijaakhaaSrc
namespace Go.Proofs.Ytecfkomijaakhaa
open Go.ChangeShapes Go.WideShapes Go.ChangeAt Go.RowKit Go.Deep

theorem code_below {w w' : World} {A : Option Addr} {n : Nat} (h : Code w A n) (hb : Below w.heap.size w w') : Code w' A n := by
  intro hn
  obtain ⟨gc, oc, e, hgc, hc⟩ := h hn
  refine ⟨gc, oc, e, Nat.lt_of_lt_of_le hgc hb.size, fun i hi => ?_⟩
  obtain ⟨b, hb8, hcell⟩ := hc i hi
  exact ⟨b, hb8, (hb.cell (p := ⟨gc, oc + i, none⟩) hgc).trans hcell⟩

theorem Blk.step {w w' : World} {g : Nat} {t : TypeId} {cs : Array Value} (h : Blk w g t cs) (hb : Below w.heap.size w w') : Blk w' g t cs := h.below hb h.lt

theorem Sl.rd {w : World} {size n m c : Nat} {A : Option Addr} {xs : List Value} (h : Sl w size (.slice A m c) n xs) : Rd w w.heap.size size A n xs := by
  obtain ⟨A', c', e, _, _, r⟩ := h
  injection e with e1 _ e3
  subst e1
  exact r

theorem open_code {H : Type} {enc : TypeId × Value → H} {w : World} {r : Reach} {b : Nat} {v : Value} {d : DataW H} {p : List MemPlace} (hv : Value.okWide Try.prog w r b 46 v)
    (h : DataW.Trod enc Try.prog w 0 (fun _ => true) true 46 v d p) : ∃ (A : Option Addr) (n c : Nat), v = .slice A n c ∧ Code w A n ∧ n ≤ c ∧ c ≤ maxLen := by
  obtain ⟨A, n, c, rfl⟩ := okWide_slice Try.underlying46 hv
  obtain ⟨fuel, hf⟩ := h
  rcases open_ints Try.underlying46 Try.underlying5 (by kernel_rfl) hf with ⟨hcs, _⟩ | ⟨a, len, cap, zs, hcs, _, hl, hm, hz, _, hcell, hwf⟩
  · have hv2 : Value.slice A n c = .slice none 0 0 := by simpa [Value.cells] using hcs
    rw [hv2]; exact ⟨none, 0, 0, rfl, fun h => absurd h (by omega), Nat.le_refl _, by simp [maxLen]⟩
  · have hv2 : Value.slice A n c = .slice (some a) len cap := by simpa [Value.cells] using hcs
    rw [hv2]
    have hz2 : zs.length = cap := by simpa using hz
    refine ⟨some a, len, cap, rfl, fun hn => ?_, hl, hm⟩
    have c0 := hcell 0 (by omega)
    rw [show a.add 0 = a from by simp [Addr.add]] at c0
    have hsp := spot_of_cell c0
    obtain ⟨g, o, sp⟩ := a
    simp only at hsp
    subst hsp
    refine ⟨g, o, rfl, block_lt_cell c0, fun j hj => ?_⟩
    have hcj := hcell j (by omega)
    rw [addr_add] at hcj
    have hm : zs.getD j 0 ∈ zs := by
      have hjz : j < zs.length := by omega
      rw [List.getD_eq_getElem?_getD, List.getElem?_eq_getElem hjz]
      exact List.getElem_mem hjz
    have hw := hwf _ hm
    have hlo : 0 ≤ zs.getD j 0 ∧ zs.getD j 0 ≤ 255 := by
      simp only [Lit.wf, Bool.and_eq_true, decide_eq_true_eq] at hw
      exact hw
    obtain ⟨b8, hb8⟩ := Int.eq_ofNat_of_zero_le hlo.1
    exact ⟨b8, by omega, by rw [hcj, hb8]⟩

end Go.Proofs.Ytecfkomijaakhaa
