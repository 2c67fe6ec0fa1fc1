/- The reference's source of draws: what memory holds of it; the walk of l01Next. -/
import Derived.Test.YtecfkomijaakhaaInts
import Derived.Test.YtecfkomijaakhaaApp
namespace Go.Proofs.Ytecfkomijaakhaa
open Go.RowKit

/-- The bytes of a code that is read. -/
def Code (w : World) (A : Option Addr) (n : Nat) : Prop := 0 < n → ∃ gc oc, A = some ⟨gc, oc, none⟩ ∧ gc < w.heap.size ∧ ∀ i, i < n → ∃ b : Nat, b < 256 ∧ w.cell? ⟨gc, oc + i, none⟩ = some (.int .u8 b)
/-- The source at block g: its code, where it is, its seed. -/
structure Src (w : World) (base g : Nat) (A : Option Addr) (n c : Nat) : Prop where
  blk : ∃ a s : Nat, Blk w g 82 #[.slice A n c, .int .i64 a, .int .i64 s] ∧ a ≤ n ∧ s < 2147483647
  lo : base ≤ g
  small : n ≤ 4096
  cap : n ≤ c ∧ c ≤ maxLen
  code : Code w A n
  far : 0 < n → ∀ gc oc, A = some ⟨gc, oc, none⟩ → gc < base
/-- What a draw leaves: a number below m (0 where m is 1 or less), the source, and all else as it was. -/
def NextPost (base g : Nat) (A : Option Addr) (n c : Nat) (m : Int) (w : World) (e : Ending) (w' : World) : Prop :=
  ∃ x : Nat, e = .returned (.int .i64 x) ∧ ((m ≤ 1 ∧ x = 0) ∨ (x : Int) < m) ∧ Src w' base g A n c ∧ w.grownBy w' (some g)

theorem Src.of {w w' : World} {base g n c : Nat} {A : Option Addr} (h : Src w base g A n c) {a s : Nat} (hB : Blk w' g 82 #[.slice A n c, .int .i64 a, .int .i64 s]) (ha : a ≤ n) (hs : s < 2147483647) (hg : w.grownBy w' (some g)) : Src w' base g A n c := by
  refine ⟨⟨a, s, hB, ha, hs⟩, h.lo, h.small, h.cap, fun hn => ?_, h.far⟩
  obtain ⟨gc, oc, e, hgc, hc⟩ := h.code hn
  refine ⟨gc, oc, e, Nat.lt_of_lt_of_le hgc hg.size, fun i hi => ?_⟩
  obtain ⟨b, hb, hcell⟩ := hc i hi
  have hne : gc ≠ g := by have := h.far hn gc oc e; have := h.lo; omega
  exact ⟨b, hb, (World.cell?_of_block (hg.block gc hgc (fun e => hne (by injection e)))).trans hcell⟩
/-- A source over a call that leaves its block alone. -/
theorem Src.below {w w' : World} {base g n c : Nat} {A : Option Addr} (h : Src w base g A n c) (hb : Below w.heap.size w w') : Src w' base g A n c := by
  obtain ⟨a, s, hB, ha, hs⟩ := h.blk
  exact h.of (hB.below hb hB.lt) ha hs (below_grown hb _)
theorem gb_set (w : World) (p : Addr) (u : Value) : w.grownBy (w.setCell p u) (some p.block) := ⟨rfl, rfl, rfl, by simp [World.setCell], fun k _ hk => Below.heap_setCell _ _ _ _ (fun e => hk (by rw [e]))⟩
theorem gb_drewN {a b : World} {row : Option Nat} (h : a.grownBy b row) (n : Nat) : a.grownBy (b.drewN n) row := ⟨h.os, h.tape, h.output, h.size, h.block⟩

set_option maxHeartbeats 4000000 in
theorem next_any (w : World) (base g : Nat) (A : Option Addr) (n c : Nat) (m : Int) (hs : Src w base g A n c) :
    Calls Try.prog 78 #[.pointer (some ⟨g, 0, none⟩), .int .i64 m] w (NextPost base g A n c m w) := by
  have Hs := Lib.hid hs
  obtain ⟨⟨a, s, hB, ha, hsd⟩, hlo, hsm, ⟨hc1, hc2⟩, hcode, hfar⟩ := hs
  unfold maxLen at hc2
  by_cases hm : m ≤ 1
  · clear hB hcode hfar
    go_enter Try.func78, Try.ntmps78
    go_wp2
    go_ret
    exact ⟨0, rfl, .inl ⟨hm, rfl⟩, Hs.out, gb_refl _ _⟩
  · have k0 : w.cell? ⟨g, 0, none⟩ = some (.slice A n c) := hB.cell 0
    have k1 : w.cell? ⟨g, 1, none⟩ = some (.int .i64 a) := hB.cell 1
    have k2 : w.cell? ⟨g, 2, none⟩ = some (.int .i64 s) := hB.cell 2
    have f1 := hB.frozen 1
    have f2 := hB.frozen 2
    have HB := Lib.hid hB
    have Hcode := Lib.hid hcode
    have Hfar := Lib.hid hfar
    clear hB hcode hfar
    go_enter Try.func78, Try.ntmps78
    have e1 : ((s : Int) * 48271 + 29) % 2147483647 = (((s * 48271 + 29) % 2147483647 : Nat) : Int) := by omega
    obtain ⟨s1, hs1⟩ : ∃ s1, s1 = (s * 48271 + 29) % 2147483647 := ⟨_, rfl⟩
    have hs1l : s1 < 2147483647 := by omega
    rw [← hs1] at e1
    have e2 : (s1 : Int) / 31 = ((s1 / 31 : Nat) : Int) := by omega
    obtain ⟨x0, hx0⟩ : ∃ x0, x0 = s1 / 31 := ⟨_, rfl⟩
    have hx0l : x0 < 2147483647 := by omega
    rw [← hx0] at e2
    have HB1 := Lib.hid (show Blk (w.setCell ⟨g, 2, none⟩ (.int .i64 s1)) g 82 #[.slice A n c, .int .i64 a, .int .i64 s1] from HB.out.set 2 _)
    have HG1 := Lib.hid (show w.grownBy (w.setCell ⟨g, 2, none⟩ (.int .i64 s1)) (some g) from ⟨rfl, rfl, rfl, by simp [World.setCell], fun k _ hk => Below.heap_setCell _ _ _ _ (fun e => hk (by rw [e]))⟩)
    obtain ⟨w1, hw1⟩ : ∃ w1, w1 = w.setCell ⟨g, 2, none⟩ (.int .i64 s1) := ⟨_, rfl⟩
    clear hs1 hx0
    go_wp2
    rw [← hw1]
    rw [← hw1] at HB1 HG1
    clear hw1 e1 e2 k0 k1 k2 f1 f2
    have k0 : w1.cell? ⟨g, 0, none⟩ = some (.slice A n c) := HB1.out.cell 0
    have k1 : w1.cell? ⟨g, 1, none⟩ = some (.int .i64 a) := HB1.out.cell 1
    have f1 := HB1.out.frozen 1
    obtain ⟨M, rfl⟩ := Int.eq_ofNat_of_zero_le (show 0 ≤ m by omega)
    have hM : 1 < M := by omega
    have ia : (0 : Int) ≤ (a : Int) := Int.natCast_nonneg _
    by_cases han : a < n
    · obtain ⟨gc, oc, rfl, hgc, hby⟩ := Hcode.out (by omega)
      obtain ⟨b, hb, cb0⟩ := hby a han
      have hne : gc ≠ g := by have := Hfar.out (by omega) gc oc rfl; omega
      have cb : w1.cell? ⟨gc, oc + a, none⟩ = some (.int .u8 b) := (World.cell?_of_block (HG1.out.block gc hgc (fun e => hne (by injection e)))).trans cb0
      have ib : (a : Int) < (n : Int) := by omega
      have hc : ((a + 1 : Nat) : Int) = (a : Int) + 1 := by omega
      have hal : a + 1 ≤ n := by omega
      have Hhc := Lib.hid hc
      clear cb0 hby hc
      by_cases h256 : (M : Int) ≤ 256
      · by_cases hpar : (a + 1) % 2 = 0
        · have t2 : (((a : Int) + 1) % 2 == 0) = true := by simp; omega
          go_quiet (fail)
          go_wp2
          go_quiet (fail)
          go_wp2
          go_quiet (fail)
          go_wp2
          go_ret
          refine ⟨b % M, retI (by simp), .inr (by have := Nat.mod_lt b (show 0 < M by omega); omega), Src.of Hs.out (a := a + 1) (s := s1) ?_ hal hs1l ?_, ?_⟩
          · rw [Hhc.out]; exact ((show Blk (w1.drewN _) g _ _ from HB1.out).set 1 _)
          · exact gb_drewN (gb_trans (gb_drewN HG1.out _) (gb_set _ ⟨g, 1, none⟩ _)) _
          · exact gb_drewN (gb_trans (gb_drewN HG1.out _) (gb_set _ ⟨g, 1, none⟩ _)) _
        · have t2 : (((a : Int) + 1) % 2 == 0) = false := by simp; omega
          go_quiet (fail)
          go_wp2
          go_quiet (fail)
          go_wp2
          go_ret
          refine ⟨(x0 + b) % M, retI (by simp), .inr (by have := Nat.mod_lt (x0 + b) (show 0 < M by omega); omega), Src.of Hs.out (a := a + 1) (s := s1) ?_ hal hs1l ?_, ?_⟩
          · rw [Hhc.out]; exact ((show Blk (w1.drewN _) g _ _ from HB1.out).set 1 _)
          · exact gb_trans (gb_drewN HG1.out _) (gb_set _ ⟨g, 1, none⟩ _)
          · exact gb_trans (gb_drewN HG1.out _) (gb_set _ ⟨g, 1, none⟩ _)
      · go_quiet (fail)
        go_wp2
        go_quiet (fail)
        go_wp2
        go_ret
        refine ⟨(x0 + b) % M, retI (by simp), .inr (by have := Nat.mod_lt (x0 + b) (show 0 < M by omega); omega), Src.of Hs.out (a := a + 1) (s := s1) ?_ hal hs1l ?_, ?_⟩
        · rw [Hhc.out]; exact ((show Blk (w1.drewN _) g _ _ from HB1.out).set 1 _)
        · exact gb_trans (gb_drewN HG1.out _) (gb_set _ ⟨g, 1, none⟩ _)
        · exact gb_trans (gb_drewN HG1.out _) (gb_set _ ⟨g, 1, none⟩ _)
    · have ib : decide ((a : Int) < (n : Int)) = false := by simp; omega
      go_quiet (fail)
      go_wp2
      go_ret
      refine ⟨x0 % M, retI (by simp), .inr (by have := Nat.mod_lt x0 (show 0 < M by omega); omega), Src.of Hs.out (a := a) (s := s1) ?_ ha hs1l ?_, ?_⟩
      · exact (show Blk (w1.drewN _) g _ _ from HB1.out)
      · exact gb_drewN HG1.out _
      · exact gb_drewN HG1.out _

end Go.Proofs.Ytecfkomijaakhaa
