/- Rows of different types lie apart. No walks. -/
import Derived.Test.YtecfkomijaakhaaMem
namespace Go.Proofs.Ytecfkomijaakhaa
open Go.RowKit

theorem own_type_apart {w : World} {b b' s s' n n' : Nat} {e e' : TypeId} {v v' : Value} {xs ys : List Value} (h : w.ownsRow b e s v n xs) (h' : w.ownsRow b' e' s' v' n' ys) (hne : e ≠ e') : v.ownBlock = none ∨ v.ownBlock ≠ v'.ownBlock := by
  rcases h.2 with ⟨rfl, _⟩ | ⟨g, c, cur, rfl, _, hg, _⟩
  · exact .inl rfl
  · rcases h'.2 with ⟨rfl, _⟩ | ⟨g', c', cur', rfl, _, hg', _⟩
    · exact .inr (by simp [Value.ownBlock])
    · refine .inr (fun hh => ?_)
      have : g = g' := by simpa [Value.ownBlock] using hh
      subst this
      rw [hg] at hg'
      injection hg' with hg'
      injection hg' with _ h2
      exact hne h2
/-- A new row that is laid whole. -/
theorem own_whole (w : World) (cs : Array Value) (e size n : Nat) {base : Nat} (hb : base ≤ w.heap.size) (hn : cs.size = n * size) (hm : n ≤ maxLen) : (w.alloc (.cells cs e)).ownsRow base e size (.slice (some ⟨w.heap.size, 0, none⟩) n n) n cs.toList :=
  ⟨by rw [Array.length_toList]; exact hn, .inr ⟨w.heap.size, n, cs, rfl, hb, heap_alloc_new w _, Nat.le_refl _, hm, hn, by rw [← hn]; exact List.take_of_length_le (by simp)⟩⟩
end Go.Proofs.Ytecfkomijaakhaa
