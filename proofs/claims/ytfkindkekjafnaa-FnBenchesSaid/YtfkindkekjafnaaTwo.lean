/- The walks of TwoBenches, in the program and in the reference. -/
import Derived.Test.YtfkindkekjafnaaPlan
import Derived.Test.YtfkindkekjafnaaInts
import Derived.Test.YtfkindkekjafnaaApp
import Derived.Test.YtfkindkekjafnaaBits
namespace Go.Proofs.Ytfkindkekjafnaa
open Go.RowKit

def bitN (n c k : Nat) : Nat := c / 2 ^ (n - 1 - k) % 2
theorem bitN_01 (n c k : Nat) : bitN n c k = 0 ∨ bitN n c k = 1 := by unfold bitN; omega
def sumsN (L : List Job) (c b : Nat) : Nat → Int
  | 0 => 0
  | k + 1 => sumsN L c b k + if bitN L.length c k = b then (jobAt L k).min else 0
theorem sumsN_bd {L : List Job} (h : areJobs L = true) (c b : Nat) : ∀ k, k ≤ L.length → 0 ≤ sumsN L c b k ∧ sumsN L c b k ≤ 1000 * k := by
  intro k
  induction k with
  | zero => intro _; simp [sumsN]
  | succ k ih =>
    intro hk
    have := ih (by omega)
    have hj := areJobs_at h (i := k) (by omega)
    simp only [sumsN]
    split <;> omega
def benchN (L : List Job) (c : Nat) : Int := max (sumsN L c 0 L.length) (sumsN L c 1 L.length)
def bestN (L : List Job) : Nat → Nat × Int
  | 0 => (0, -1)
  | c + 1 => if (bestN L c).2 < 0 ∨ benchN L c < (bestN L c).2 then (c, benchN L c) else bestN L c
theorem bestN_le (L : List Job) : ∀ c, (bestN L c).1 ≤ c := by
  intro c
  induction c with
  | zero => simp [bestN]
  | succ c ih => simp only [bestN]; split <;> first | omega | (simp; done)
def bitsN (n c : Nat) (k : Nat) : List Int := (List.range k).map fun i => ((bitN n c i : Nat) : Int)
theorem bitsN_succ (n c k : Nat) : bitsN n c (k + 1) = bitsN n c k ++ [((bitN n c k : Nat) : Int)] := by simp [bitsN, List.range_succ]
theorem bitsN_len (n c k : Nat) : (bitsN n c k).length = k := by simp [bitsN]
def twoF (L : List Job) : List Int × Int × Int := if areJobs L = true then (bitsN L.length (bestN L (2 ^ L.length)).1 L.length, (bestN L (2 ^ L.length)).2, 0) else ([], 0, 1)
theorem twoF_len (L : List Job) : (twoF L).1.length ≤ 4194304 := by
  unfold twoF
  split
  · rename_i h; have := areJobs_le h; simp [bitsN_len]; omega
  · simp
theorem and_one (q : Nat) (hq : q < 4611686018427387904) : bits BinOp.and IntKind.i64 (q : Int) 1 = ((q % 2 : Nat) : Int) := by
  have := bits_and q 1 (by omega) (by omega)
  simpa using this

set_option maxHeartbeats 2000000 in
theorem implTwoBenches_any (w : World) (L : List Job) (v : Value) (hv : Sl w 3 v L.length (jobRow L)) (hf : jobFit L) (hn : L.length ≤ 4194304) :
    Calls Try.prog 45 #[v] w (RetSIC w.heap.size 2 1 intsRow (twoF L) w) := by
  have Hv := Lib.hid hv
  have Hf := Lib.hid hf
  clear hf
  cases h1 : areJobs L
  · clear hv
    have H := Lib.hid (show twoF L = ([], 0, 1) by simp [twoF, h1])
    go_enter Try.func45, Try.ntmps45
    go_wp2_with fail
    refine (implAreJobs_any w L v Hv.out Hf.out hn).mono ?_
    rintro e w2 ⟨rfl, hb2⟩
    rw [h1]
    go_wp2
    go_ret3
    exact RetSIC.err H.out rfl hb2
  · have h7 := areJobs_le h1
    obtain ⟨i0, hi, hz0, hz1, hz2⟩ := info_parts Try.info_ints
    have H := Lib.hid (show twoF L = (bitsN L.length (bestN L (2 ^ L.length)).1 L.length, (bestN L (2 ^ L.length)).2, 0) by simp [twoF, h1])
    obtain ⟨A, c, rfl, hl, hc, hr⟩ := hv
    have Hr := Lib.hid hr
    clear hr hl hc
    obtain ⟨N, hN⟩ : ∃ N, N = 2 ^ L.length := ⟨_, rfl⟩
    have hN7 : N ≤ 128 := by rw [hN]; exact Nat.pow_le_pow_right (show 2 > 0 by omega) h7
    rw [← hN] at H
    have hsh : (2 : Int) ^ L.length = (N : Int) := by rw [hN]; simp
    have HN := Lib.hid hN
    clear hN
    go_enter Try.func45, Try.ntmps45
    go_wp2_with fail
    refine (implAreJobs_any w L _ Hv.out Hf.out hn).mono ?_
    rintro e w2 ⟨rfl, hb2⟩
    rw [h1]
    go_wp2
    go_loopw [5, 6, 7] (fun b l i wr => ∃ c : Nat, c ≤ N ∧ i = .int .i64 c ∧ b = .int .i64 (bestN L c).1 ∧ l = .int .i64 (bestN L c).2 ∧ Below w.heap.size w wr) (fun _ _ i _ => N - (intOf i).toNat)
    case atStart => exact ⟨0, Nat.zero_le _, rfl, rfl, rfl, hb2⟩
    case round =>
      obtain ⟨c, hc, rfl, rfl, rfl, hb⟩ := hrel
      have hsz := hb.size
      by_cases hlt : c < N
      · go_wp2
        go_loopw [26] (fun i wr2 => ∃ (k : Nat) (s0 s1 : Int), k ≤ L.length ∧ i = .int .i64 k ∧ s0 = sumsN L c 0 k ∧ s1 = sumsN L c 1 k ∧ Blk wr2 wr.heap.size 73 #[.int .i64 s0, .int .i64 s1] ∧ Below w.heap.size w wr2) (fun i _ => L.length - (intOf i).toNat)
        case atStart => exact ⟨0, 0, 0, Nat.zero_le _, rfl, rfl, rfl, Blk.new _ _ _, hb.alloc hsz _⟩
        case round =>
          obtain ⟨k, s0, s1, hk, rfl, hs0, hs1, hB, hb2⟩ := hrel
          have hsz2 := hb2.size
          have b0 := sumsN_bd h1 c 0 k hk
          have b1 := sumsN_bd h1 c 1 k hk
          rw [← hs0] at b0
          rw [← hs1] at b1
          have S0 := Lib.hid hs0
          have S1 := Lib.hid hs1
          have HB := Lib.hid hB
          clear hs0 hs1
          have hBl := hB.lt
          by_cases hlt2 : k < L.length
          · obtain ⟨g, o, rfl, hg, e0, e1, e2⟩ := (Hr.out.below hb2 (Nat.le_refl _)).job hlt2
            have hj := areJobs_at h1 hlt2
            have i0' : (0 : Int) ≤ (k : Int) := Int.natCast_nonneg _
            have i1 : (k : Int) < (L.length : Int) := by omega
            obtain ⟨y, hy⟩ : ∃ y : Nat, y = L.length - 1 - k := ⟨_, rfl⟩
            have f1 : (L.length : Int) - 1 - (k : Int) = (y : Int) := by omega
            have f2 : IntKind.i64.wrap ((L.length : Int) - 1) = (L.length : Int) - 1 := by rw [IntKind.wrap_i64]; omega
            have f3 : IntKind.i64.wrap (y : Int) = (y : Int) := by rw [IntKind.wrap_i64]; omega
            obtain ⟨q, hq⟩ : ∃ q : Nat, q = c / 2 ^ y := ⟨_, rfl⟩
            have f4 : (c : Int) / 2 ^ y = (q : Int) := by rw [hq]; simp
            have hqc : q ≤ c := by rw [hq]; exact Nat.div_le_self _ _
            have hbit : bitN L.length c k = q % 2 := by rw [hq, hy]; rfl
            have f5 := and_one q (by omega)
            have Hbit := Lib.hid hbit
            clear hq hy hbit
            have c0 := fun o => hB.cell' 0 o
            have c1 := fun o => hB.cell' 1 o
            have z0 := fun o => hB.frozen' 0 o
            have z1 := fun o => hB.frozen' 1 o
            clear hB
            rcases (show q % 2 = 0 ∨ q % 2 = 1 by omega) with hq2 | hq2
            · rw [hq2] at f5 Hbit
              clear hq2
              go_wp2
              go_region
              all_goals
                go_wp2
                go_roundw
                case rel => exact ⟨k + 1, s0 + (jobAt L k).min, s1, by omega, by go_num, by simp only [sumsN]; rw [Hbit.out, ← S0.out]; simp, by simp only [sumsN]; rw [Hbit.out, ← S1.out]; simp, ((HB.out.set 0 _).alloc _).drew, ((hb2.setCell hsz _).alloc (by simp [World.setCell]; omega) _).drew⟩
                case measure => simp [intOf]; omega
            · rw [hq2] at f5 Hbit
              clear hq2
              go_wp2
              go_region
              all_goals
                go_wp2
                go_roundw
                case rel => exact ⟨k + 1, s0, s1 + (jobAt L k).min, by omega, by go_num, by simp only [sumsN]; rw [Hbit.out, ← S0.out]; simp, by simp only [sumsN]; rw [Hbit.out, ← S1.out]; simp, ((HB.out.set 1 _).alloc _).drew, ((hb2.setCell hsz _).alloc (by simp [World.setCell]; omega) _).drew⟩
                case measure => simp [intOf]; omega
          · have e0 : s0 = sumsN L c 0 L.length := by rw [S0.out, show k = L.length by omega]
            have e1 : s1 = sumsN L c 1 L.length := by rw [S1.out, show k = L.length by omega]
            have E0 := Lib.hid (show benchN L c = max s0 s1 by rw [benchN, e0, e1])
            have c0 := hB.cell 0
            have c1 := hB.cell 1
            clear e0 e1
            obtain ⟨m, hm⟩ : ∃ m, m = max s0 s1 := ⟨_, rfl⟩
            have hm0 : 0 ≤ m ∧ m ≤ 7000 := by omega
            by_cases hu : (bestN L c).2 < 0 ∨ m < (bestN L c).2
            · have U := Lib.hid (show bestN L (c + 1) = (c, m) by rw [bestN, E0.out, ← hm, if_pos hu])
              rcases hu with hu | hu
              · go_wp2
                go_roundw
                case rel => exact ⟨c + 1, by omega, by go_num, by rw [U.out], valI (by rw [U.out]; show _ = m; rw [hm]; split <;> omega), hb2⟩
                case measure => simp [intOf]; omega
              · have hu2 : 0 ≤ (bestN L c).2 ∨ (bestN L c).2 < 0 := by omega
                rcases hu2 with hu2 | hu2
                · go_wp2
                  go_roundw
                  case rel => exact ⟨c + 1, by omega, by go_num, by rw [U.out], valI (by rw [U.out]; show _ = m; rw [hm]; split <;> omega), hb2⟩
                  case measure => simp [intOf]; omega
                · go_wp2
                  go_roundw
                  case rel => exact ⟨c + 1, by omega, by go_num, by rw [U.out], valI (by rw [U.out]; show _ = m; rw [hm]; split <;> omega), hb2⟩
                  case measure => simp [intOf]; omega
            · have U := Lib.hid (show bestN L (c + 1) = bestN L c by rw [bestN, E0.out, ← hm, if_neg hu])
              go_wp2
              go_roundw
              case rel => exact ⟨c + 1, by omega, by go_num, by rw [U.out], by rw [U.out], hb2⟩
              case measure => simp [intOf]; omega
      · have hcN : c = N := by omega
        subst hcN
        obtain ⟨m, hm⟩ : ∃ m, m = (bestN L c).1 := ⟨_, rfl⟩
        have hmc : m ≤ c := by rw [hm]; exact bestN_le L c
        obtain ⟨lt, hlt'⟩ : ∃ lt, lt = (bestN L c).2 := ⟨_, rfl⟩
        rw [← hm, ← hlt'] at H
        rw [← hm, ← hlt']
        clear hm hlt' HN
        go_wp2
        rename World => wo
        go_loopw [12, 62] (fun s i wr2 => ∃ (k : Nat) (Ao : Option Addr) (co : Nat), k ≤ L.length ∧ i = .int .i64 k ∧ s = .slice Ao k co ∧ wr2.ownsRow wo.heap.size 2 1 (.slice Ao k co) k (intsRow (bitsN L.length m k)) ∧ Below wo.heap.size wo wr2) (fun _ i _ => L.length - (intOf i).toNat)
        case atStart => exact ⟨0, none, 0, Nat.zero_le _, rfl, rfl, World.ownsRow_nil _ _ _ _, Below.refl _ _⟩
        case round =>
          obtain ⟨k, Ao, co, hk, rfl, rfl, ho, hb2⟩ := hrel
          have Ho := Lib.hid ho
          clear ho
          have hsz2 := hb2.size
          by_cases hlt2 : k < L.length
          · obtain ⟨y, hy⟩ : ∃ y : Nat, y = L.length - 1 - k := ⟨_, rfl⟩
            have f1 : (L.length : Int) - 1 - (k : Int) = (y : Int) := by omega
            have f2 : IntKind.i64.wrap ((L.length : Int) - 1) = (L.length : Int) - 1 := by rw [IntKind.wrap_i64]; omega
            have f3 : IntKind.i64.wrap (y : Int) = (y : Int) := by rw [IntKind.wrap_i64]; omega
            obtain ⟨q, hq⟩ : ∃ q : Nat, q = m / 2 ^ y := ⟨_, rfl⟩
            have f4 : (m : Int) / 2 ^ y = (q : Int) := by rw [hq]; simp
            have hqc : q ≤ m := by rw [hq]; exact Nat.div_le_self _ _
            have hbit : bitN L.length m k = q % 2 := by rw [hq, hy]; rfl
            obtain ⟨r, hr⟩ : ∃ r, r = q % 2 := ⟨_, rfl⟩
            have f5 := and_one q (by omega)
            rw [← hr] at f5 hbit
            have Hbit := Lib.hid hbit
            clear hq hy hbit hr
            go_wp2_with (at_builtin; (refine wpList_append_sl _ rfl (.tmp 65) (.tmp 74) _ rfl wo.heap.size 2 i0 _ 1 8 Try.underlying38 hi hz0 hz1 hz2 rfl (by omega) _ k (intsRow (bitsN L.length m k)) rfl (Ho.out.alloc _) (some ⟨wr.heap.size, 0, none⟩) 1 1 [.int .i64 (r : Int)] rfl (Rd.of_block (cs := #[.int .i64 (r : Int)]) (heap_alloc_new _ _) rfl) (by intro x hx; simp at hx; subst hx; rfl) (by unfold maxLen; omega) (by omega) (by simp; omega) ?_; intro A9 c9 w9 ho9 hg9 hor9))
            have b9 : Below wo.heap.size wo w9 := (hb2.alloc hsz2 _).grown hg9 (by simp; omega) (fun q hq => (World.ownsRow.lt Ho.out q hq).1)
            have Ho9 := Lib.hid ho9
            clear ho9 hg9 hor9
            go_roundw
            case rel => exact ⟨k + 1, A9, c9, by omega, by go_num, rfl, by rw [bitsN_succ, intsRow_append, Hbit.out]; exact Ho9.out, b9⟩
            case measure => simp [intOf]; omega
          · have : k = L.length := by omega
            subst this
            go_wp2
            go_ret3
            exact RetSIC.ok H.out Ho.out (by simp [bitsN_len]) rfl hsz (hb.trans (hb2.mono hsz))
end Go.Proofs.Ytfkindkekjafnaa
