/- Arguments opened: a slice of structs of one-cell fields, whatever the number of fields: each element's cells, each field's own reading. No function of the program here. -/
import Derived.Test.YtecfkomijaakhaaMem
import Derived.ProofKit
import Derived.OpenShut
import Derived.ChangeOld
import Derived.Deep.Slices
import Derived.Deep.Fields
namespace Go.Proofs.Ytecfkomijaakhaa
open Go.ChangeShapes Go.WideShapes Go.ChangeAt Go.RowKit Go.Deep

theorem Try.own : ownKnob Try.prog.godebug = none := by kernel_rfl
theorem Try.laidOut : laidOutB Try.prog = true := by kernel_rfl

theorem okWide_i64 {P : Program} {w : World} {r : Reach} {b : Nat} {t : TypeId} {v : Value} (ht : P.underlying t = some (.int .i64)) (h : Value.okWide P w r b t v) : ∃ n, v = .int .i64 n := by
  simp only [Value.okWide, ht, Cell.okWide] at h
  cases v <;> simp_all [Cell.ok]
theorem open_text {H : Type} {enc : TypeId × Value → H} {P : Program} {w : World} {r : Reach} {b : Nat} {t : TypeId} {v : Value} {d : DataW H} {p : List MemPlace} (ht : P.underlying t = some .string) (hv : Value.okWide P w r b t v)
    (h : DataW.Trod enc P w 0 (fun _ => true) true t v d p) : ∃ s : ByteArray, v = .string s ∧ s.size ≤ maxLen := by
  obtain ⟨s, rfl⟩ := okWide_string ht hv
  obtain ⟨n, h⟩ := h
  obtain ⟨s', hs, _, hl⟩ := DataW.trod_string ht h
  have e : s = s' := by simpa [Value.cells] using hs
  exact ⟨s, rfl, by rw [e]; exact hl⟩
/-- A cell that is there lies in no number's spot. -/
theorem spot_of_cell {w : World} {a : Addr} {v : Value} (h : w.cell? a = some v) : a.spot = none := by
  cases hs : a.spot with
  | none => rfl
  | some x =>
    unfold World.cell? at h
    split at h <;> simp [hs] at h
theorem addr_add (g o j : Nat) : (⟨g, o, none⟩ : Addr).add j = ⟨g, o + j, none⟩ := by unfold Addr.add; split <;> simp_all
theorem block_add (a : Addr) (n : Nat) : (a.add n).block = a.block := by unfold Addr.add; split <;> rfl
theorem block_lt_cell {w : World} {a : Addr} {v : Value} (h : w.cell? a = some v) : a.block < w.heap.size := by
  have := World.block_lt_of_cell? w a h
  exact this

section
variable {H : Type} {enc : TypeId × Value → H} {P : Program} {w : World}
/-- Element i of a slice that reads, its field j. -/
def FieldAt (enc : TypeId × Value → H) (P : Program) (w : World) (a : Addr) (n i j : Nat) (t : TypeId) (v : Value) : Prop :=
  w.cell? (a.add (i * n + j)) = some v ∧ ∃ m y, DataW.trod enc P w 0 (fun _ => true) true m t [v] = some y

theorem open_structs {t e : TypeId} {fs : Array Field} {v : Value} {d : DataW H} {p : List MemPlace} (ht : P.underlying t = some (.slice e)) (he : P.underlying e = some (.struct fs))
    (hone : oneCellFields P fs = true) (hC : P.cellsOf e = fs.size) (hs : ∃ A n c, v = .slice A n c) (h : DataW.Trod enc P w 0 (fun _ => true) true t v d p) :
    v = .slice none 0 0 ∨ ∃ (a : Addr) (len cap : Nat), v = .slice (some a) len cap ∧ len ≤ cap ∧ cap ≤ maxLen ∧ ∀ i, i < len → ∀ (j : Nat) (f : Field), fs[j]? = some f → ∃ u, FieldAt enc P w a fs.size i j f.type u := by
  obtain ⟨A, n, c, rfl⟩ := hs
  obtain ⟨fuel, hf⟩ := h
  rcases open_slice ht hf with ⟨h0, _⟩ | ⟨a, len, cap, m, n', D, Pl, hcs, _, hl, hm, hmm, _, hi⟩
  · left; simpa [Value.cells] using h0
  · right
    have hv : Value.slice A n c = .slice (some a) len cap := by simpa [Value.cells] using hcs
    refine ⟨a, len, cap, hv, hl, hm, fun i hil j f hj => ?_⟩
    obtain ⟨cs', hc, ht'⟩ := hi i (by rw [hmm]; simp; omega)
    rw [hC] at hc
    obtain ⟨ys, k, _, _, hlen, hyl, hfl⟩ := DataW.trod_struct he ht'
    obtain ⟨_, hcl, hat⟩ := World.cells?_some hc
    obtain ⟨ho, hk⟩ := hone_of hone j f hj
    have hjl : j < fs.size := (Array.getElem?_eq_some_iff.1 hj).1
    have h1 := hfl j f hj
    rw [ho, hk] at h1
    have hone' : (cs'.drop j).take 1 = [cs'[j]'(by omega)] := by
      rw [List.drop_eq_getElem_cons (by omega)]; rfl
    rw [hone', List.getElem?_eq_getElem (show j < ys.length by omega)] at h1
    refine ⟨cs'[j]'(by omega), ?_, k, _, h1⟩
    have hcell := hat j hjl
    rw [List.getElem?_eq_getElem (show j < cs'.length by omega)] at hcell
    rw [← hcell]
    congr 1
    unfold Addr.add
    by_cases e1 : i * fs.size = 0 <;> by_cases e2 : j = 0 <;> simp [e1, e2, Nat.add_assoc]

theorem FieldAt.str {a : Addr} {n i j : Nat} {t : TypeId} {v : Value} (ht : P.underlying t = some .string) (h : FieldAt enc P w a n i j t v) : ∃ s : ByteArray, v = .string s ∧ s.size ≤ maxLen := by
  obtain ⟨_, m, y, h⟩ := h
  obtain ⟨s, hs, _, hl⟩ := DataW.trod_string ht h
  exact ⟨s, by simpa using hs, hl⟩
theorem FieldAt.int {a : Addr} {n i j : Nat} {t : TypeId} {v : Value} {k : IntKind} (ht : P.underlying t = some (.int k)) (h : FieldAt enc P w a n i j t v) : ∃ s : Int, v = .int k s ∧ (Lit.int k s).wf = true := by
  obtain ⟨_, m, y, h⟩ := h
  obtain ⟨s, hs, _, hl⟩ := DataW.trod_int ht h
  exact ⟨s, by simpa using hs, hl⟩
/-- The address of a slice that holds a cell is a plain one. -/
theorem FieldAt.plain {a : Addr} {n : Nat} {t : TypeId} {v : Value} (h : FieldAt enc P w a n 0 0 t v) : ∃ g o, a = ⟨g, o, none⟩ ∧ g < w.heap.size := by
  obtain ⟨hc, _⟩ := h
  rw [show (0 * n + 0) = 0 by omega, show a.add 0 = a from by simp [Addr.add]] at hc
  exact ⟨a.block, a.off, by cases a; simp [spot_of_cell hc] at *; simpa using spot_of_cell hc, block_lt_cell hc⟩
end

end Go.Proofs.Ytecfkomijaakhaa
