/- FnExactAreJobs, for every input: the program's AreJobs returns what the reference's returns. Its conditions: none. -/
import Derived.Test.YtfkindkekjafnaaJob5
import Derived.Test.YtfkindkekjafnaaOpen
namespace Go.Proofs.Ytfkindkekjafnaa
open Go.ChangeShapes Go.WideShapes Go.ChangeAt Go.RowKit Go.Deep

theorem open_jobs {H : Type} {enc : TypeId × Value → H} {w : World} {r : Reach} {b : Nat} {v : Value} {d : DataW H} {p : List MemPlace} (hv : Value.okWide Try.prog w r b 22 v)
    (h : DataW.Trod enc Try.prog w 0 (fun _ => true) true 22 v d p) :
    ∃ (A : Option Addr) (L : List Job) (c : Nat), v = .slice A L.length c ∧ L.length ≤ c ∧ c ≤ maxLen ∧ Rd w w.heap.size 3 A L.length (jrow L) ∧ ∀ i, i < L.length → (jat L i).name.size ≤ maxLen := by
  rcases open_structs Try.underlying22 Try.underlying30 (by kernel_rfl) (by kernel_rfl) (okWide_slice Try.underlying22 hv) h with rfl | ⟨a, len, cap, rfl, hl, hc, hf⟩
  · exact ⟨none, [], 0, rfl, Nat.le_refl _, by simp [maxLen], Rd.none_, fun i h => absurd h (by simp)⟩
  · have hg : ∀ i, i < len → ∃ j : Job, w.cell? (a.add (i * 3 + 0)) = some (.string j.name) ∧ w.cell? (a.add (i * 3 + 1)) = some (.int .i64 j.min) ∧ w.cell? (a.add (i * 3 + 2)) = some (.int .i64 j.due) ∧ j.name.size ≤ maxLen := by
      intro i hi
      obtain ⟨u0, f0⟩ := hf i hi 0 _ rfl
      obtain ⟨u1, f1⟩ := hf i hi 1 _ rfl
      obtain ⟨u2, f2⟩ := hf i hi 2 _ rfl
      obtain ⟨s, rfl, hs⟩ := f0.str Try.underlying9
      obtain ⟨m, rfl, _⟩ := f1.int Try.underlying2
      obtain ⟨q, rfl, _⟩ := f2.int Try.underlying2
      exact ⟨⟨s, m, q⟩, f0.1, f1.1, f2.1, hs⟩
    obtain ⟨J, hJ⟩ := choose_lt hg
    refine ⟨some a, (List.range len).map J, cap, by simp, by simpa using hl, hc, ⟨by rw [jrow_len], fun hn => ?_⟩, fun i hi => ?_⟩
    · have hn' : 0 < len := by simpa using hn
      obtain ⟨u0, f0⟩ := hf 0 hn' 0 _ rfl
      obtain ⟨g, o, rfl, hgl⟩ := f0.plain (i := 0) (j := 0)
      refine ⟨g, o, rfl, hgl, fun j u hu => ?_⟩
      have hj : j < ((List.range len).map J).length * 3 := by rw [← jrow_len]; exact (List.getElem?_eq_some_iff.1 hu).1
      have hj' : j / 3 < len := by simp at hj; omega
      have ha : jat ((List.range len).map J) (j / 3) = J (j / 3) := by simp [jat, List.getD, hj']
      obtain ⟨q0, q1, q2⟩ := jrow_at ((List.range len).map J) (j / 3) (by simpa using hj')
      obtain ⟨c0, c1, c2, _⟩ := hJ (j / 3) hj'
      rw [ha] at q0 q1 q2
      rw [addr_add] at c0 c1 c2
      have hcase : j = j / 3 * 3 ∨ j = j / 3 * 3 + 1 ∨ j = j / 3 * 3 + 2 := by omega
      rcases hcase with e | e | e
      · rw [e] at hu ⊢; rw [q0] at hu; cases hu; exact c0
      · rw [e] at hu ⊢; rw [q1] at hu; cases hu; exact c1
      · rw [e] at hu ⊢; rw [q2] at hu; cases hu; exact c2
    · have hi' : i < len := by simpa using hi
      have ha : jat ((List.range len).map J) i = J i := by simp [jat, List.getD, hi']
      rw [ha]; exact (hJ i hi').2.2.2

namespace AreJobsLaw
set_option maxRecDepth 100000 in
theorem lifted (os : Os) (started : os.Started) (H : Type) (enc : TypeId × Value → H) :
    ReturnsInHanded {} Try.checked os 3 .any (Rows.fnExactAreJobsSpec.pre6 enc Try.prog Try.f3 Rows.fnExactAreJobsRow.domain false) (Rows.fnExactAreJobsSpec.post enc Try.prog Try.f3 false true false false) := by
  refine returnsInHanded_of_change (C := Try.checked) Try.own started (by kernel_rfl) Try.func3
    (ChangeSpec.witness6 (enc := enc) (C := Try.checked) false ⟨#[], #[.slice none 0 0], []⟩ 8 (by kernel_rfl) (by kernel_rfl) (by kernel_rfl) (by kernel_rfl)) ?_
  intro W base args ds gs before hval0 hW hcnd _
  have hval : ∀ (j : Nat) t v, Try.f3.params[j]? = some t → args[j]? = some v → Value.okWide Try.prog W .any base t v := hval0
  have hW' := hW
  obtain ⟨p, q, hA0, hV, rfl, hfz, hnd⟩ := hW
  have hA : DataW.TrodAll enc Try.prog W 0 (fun _ => true) true Try.f3.params.toList args.toList ds p := hA0
  rw [Try.params3] at hA hval
  obtain ⟨v0, vs0, d0, ds0, p0, q0, hargs, rfl, rfl, h0, r0⟩ := trodAll_cons hA
  obtain ⟨rfl, rfl, rfl⟩ := trodAll_nil r0
  obtain rfl : args = #[v0] := by cases args; simp_all
  obtain ⟨rfl, rfl⟩ := trodVars_none hV
  have lt0 : ∀ x ∈ p0, x.block < W.heap.size := by obtain ⟨m, hm⟩ := h0; exact DataW.trod_lt m _ _ _ hm
  obtain ⟨A, L, c, rfl, hl, hc, hr, hs⟩ := open_jobs (hval 0 _ v0 rfl rfl) h0
  clear hA0 hval0
  refine (lawAreJobs_any L A c W hr hl hc hs).mono fun e W' ⟨he, bel⟩ => ?_
  subst he
  exact ⟨_, rfl, _, _, _, [], _, [], hW', trodAll_mk1 (shut_bool Try.underlying4 _), (trodAll_cons_mk (Below.trod Try.laidOut (by kernel_rfl) (of_decide_eq_true (by kernel_rfl)) h0 bel lt0) trodAll_mk0), rfl, bel.frame _, fun h => by cases h⟩

theorem proved : Rows.FnExactAreJobsSaid :=
  OpenClaim.holds_of_wide 3 Try.f3 rfl rfl rfl rfl rfl rfl rfl ⟨rfl, rfl, rfl, rfl, rfl⟩ rfl rfl rfl rfl rfl (by kernel_rfl) Try.func3 (by kernel_rfl)
    (of_decide_eq_true (by kernel_rfl)) (by unfold Func.isWrapper; first | (rw [if_pos (by decide +kernel)]; kernel_rfl) | (rw [if_neg (by decide +kernel)]; exact ⟨rfl, rfl⟩))
    (fun os started H enc _ => lifted os started H enc)
#print axioms proved
end AreJobsLaw

end Go.Proofs.Ytfkindkekjafnaa
