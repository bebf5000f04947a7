/- Walks over chapter 24: the row OrderKnown, of a number that names no list. -/
import Derived.Test.YtmplhchplehhlaaOrdW15
namespace Go.Proofs.Ytmplhchplehhlaa
open Go.RowKit Go.Maps Go.Shelf

set_option maxRecDepth 100000 in
set_option maxHeartbeats 8000000 in
theorem known_high (a : Int) (ha : 21 ≤ a) (w : World) :
    Calls Try.prog 4 #[.int .i64 a] w fun e w' => e = .returned (.bool true) ∧ Below w.heap.size w w' := by
  have ha1 : ¬ (a < 0) := by omega
  go_enter Try.func4, Try.ntmps4
  go_wp2_with fail
  refine (alive_any w).mono ?_
  rintro e w1 ⟨rfl, hb⟩
  have HW := Lib.hid hb
  clear hb
  go_wp2_with fail
  go_ret
  refine ⟨rfl, ?_⟩
  repeat refine bl_alloc ?_ _
  exact HW.out
end Go.Proofs.Ytmplhchplehhlaa
