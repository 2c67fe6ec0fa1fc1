/- The walks of ErrorOf, IsClosed in the program and in the reference. -/
import Derived.Test.YtmjjlpkleapaeaaTubes2
import Derived.Test.YtmjjlpkleapaeaaApp
namespace Go.Proofs.Ytmjjlpkleapaeaa
open Go.RowKit

def RetIIC (r : Int × Int × Int) (w : World) (en : Ending) (w' : World) : Prop := en = .returned (.tuple #[.int .i64 r.1, .int .i64 r.2.1, .int .i64 r.2.2]) ∧ Below w.heap.size w w'
theorem RetIIC.ok {r : Int × Int × Int} {w w' : World} {a b c : Int} (h : r = (a, b, c)) (hb : Below w.heap.size w w') : RetIIC r w (.returned (.tuple #[.int .i64 a, .int .i64 b, .int .i64 c])) w' := by
  subst h; exact ⟨rfl, hb⟩
def errOfF (L : List Tube) : Int × Int × Int := if areTubes L = true then (sumX L, sumY L, 0) else (0, 0, 1)
theorem errOf_bad {L : List Tube} (h : areTubes L = false) : errOfF L = (0, 0, 1) := by simp [errOfF, h]
theorem errOf_ok {L : List Tube} (h : areTubes L = true) : errOfF L = (sumX L, sumY L, 0) := by simp [errOfF, h]

set_option maxHeartbeats 2000000 in
theorem implErrorOf_any (w : World) (L : List Tube) (v : Value) (hv : Sl w 2 v L.length (tubeRow L)) (hn : L.length ≤ 4194304) :
    Calls Try.prog 35 #[v] w (RetIIC (errOfF L) w) := by
  have Hv := Lib.hid hv
  clear hv
  cases h1 : areTubes L
  · have H := Lib.hid (errOf_bad h1)
    go_enter Try.func35, Try.ntmps35
    go_wp2_with fail
    refine (implAreTubes_any w L _ Hv.out hn).mono ?_
    rintro e w2 ⟨rfl, hb2⟩
    rw [h1]
    go_wp2
    go_ret3
    exact RetIIC.ok H.out (hb2)
  · have H := Lib.hid (errOf_ok h1)
    go_enter Try.func35, Try.ntmps35
    go_wp2_with fail
    refine (implAreTubes_any w L _ Hv.out hn).mono ?_
    rintro e w2 ⟨rfl, hb2⟩
    rw [h1]
    go_wp2_with fail
    refine (implError_any w2 L _ (Hv.out.below hb2) h1).mono ?_
    rintro e w3 ⟨rfl, hb3⟩
    have b3 := hb2.trans (hb3.mono hb2.size)
    have k0 : (w3.alloc (.cells #[.int .i64 (sumX L), .int .i64 (sumY L)] 54)).cell? ⟨w3.heap.size, 0, none⟩ = some (.int .i64 (sumX L)) := (Blk.new w3 _ _).cell 0
    have k1 : (w3.alloc (.cells #[.int .i64 (sumX L), .int .i64 (sumY L)] 54)).cell? ⟨w3.heap.size, 1, none⟩ = some (.int .i64 (sumY L)) := (Blk.new w3 _ _).cell 1
    have b4 : Below w.heap.size w (w3.alloc (.cells #[.int .i64 (sumX L), .int .i64 (sumY L)] 54)) := b3.alloc b3.size _
    go_wp2
    go_quiet (fail)
    go_wp2
    go_ret3
    exact RetIIC.ok H.out (below_drewN b4 _)

set_option maxHeartbeats 2000000 in
theorem specErrorOf_any (w : World) (L : List Tube) (v : Value) (hv : Sl w 2 v L.length (tubeRow L)) (hn : L.length ≤ 4194304) :
    Calls Try.prog 36 #[v] w (RetIIC (errOfF L) w) := by
  have Hv := Lib.hid hv
  clear hv
  cases h1 : areTubes L
  · have H := Lib.hid (errOf_bad h1)
    go_enter Try.func36, Try.ntmps36
    go_wp2_with fail
    refine (specAreTubes_any w L _ Hv.out hn).mono ?_
    rintro e w2 ⟨rfl, hb2⟩
    have hb2 : Below w.heap.size w w2 := hb2 ▸ Below.refl _ _
    rw [h1]
    go_wp2
    go_ret3
    exact RetIIC.ok H.out (hb2)
  · have H := Lib.hid (errOf_ok h1)
    go_enter Try.func36, Try.ntmps36
    go_wp2_with fail
    refine (specAreTubes_any w L _ Hv.out hn).mono ?_
    rintro e w2 ⟨rfl, hb2⟩
    have hb2 : Below w.heap.size w w2 := hb2 ▸ Below.refl _ _
    rw [h1]
    go_wp2_with fail
    refine (specError_any w2 L _ (Hv.out.below hb2) h1).mono ?_
    rintro e w3 ⟨rfl, hb3⟩
    have hb3 : Below w2.heap.size w2 w3 := hb3 ▸ Below.refl _ _
    have b3 := hb2.trans (hb3.mono hb2.size)
    go_wp2
    go_ret3
    exact RetIIC.ok H.out (b3)

def isClosedF (L : List Tube) : Bool × Int := if areTubes L = true then (closedT L, 0) else (false, 1)

set_option maxHeartbeats 2000000 in
theorem implIsClosed_any (w : World) (L : List Tube) (v : Value) (hv : Sl w 2 v L.length (tubeRow L)) (hn : L.length ≤ 4194304) :
    Calls Try.prog 40 #[v] w (RetBC (isClosedF L) w) := by
  have Hv := Lib.hid hv
  clear hv
  cases h1 : areTubes L
  · have H := Lib.hid (show isClosedF L = (false, 1) by simp [isClosedF, h1])
    go_enter Try.func40, Try.ntmps40
    go_wp2_with fail
    refine (implAreTubes_any w L _ Hv.out hn).mono ?_
    rintro e w2 ⟨rfl, hb2⟩
    rw [h1]
    go_wp2
    go_ret2
    exact RetBC.ok H.out hb2
  · have H := Lib.hid (show isClosedF L = (closedT L, 0) by simp [isClosedF, h1])
    go_enter Try.func40, Try.ntmps40
    go_wp2_with fail
    refine (implAreTubes_any w L _ Hv.out hn).mono ?_
    rintro e w2 ⟨rfl, hb2⟩
    rw [h1]
    go_wp2_with fail
    refine (implClosed_any w2 L _ (Hv.out.below hb2) h1).mono ?_
    rintro e w3 ⟨rfl, hb3⟩
    have b3 := hb2.trans (hb3.mono hb2.size)
    go_wp2
    go_ret2
    exact RetBC.ok H.out b3

end Go.Proofs.Ytmjjlpkleapaeaa
