/- Walks over chapter 24's methods: kept. -/
import Derived.Test.YtmplhchplehhlaaOrdW4
namespace Go.Proofs.Ytmplhchplehhlaa
open Go.RowKit
open OrdL (Ev Tr Wk)

theorem bl_drewN {w W : World} (h : Below w.heap.size w W) (n : Nat) : Below w.heap.size w (W.drewN n) := ⟨h.os, h.tape, h.output, h.size, h.block⟩
theorem line_any (a : Int) (w : World) (h2 : a ≤ 9223372036854775807) :
    Calls Try.prog 23 #[.int .i64 a] w fun e w' => e = .returned (.int .i64 (OrdL.lineOf a)) ∧ w' = w := by
  by_cases h : a < 4096
  · refine (line_neg a w h).mono ?_
    rintro e w' ⟨rfl, rfl⟩
    exact ⟨by rw [OrdL.lineOf, if_pos h], rfl⟩
  · refine (line_pos a w (by omega) h2).mono ?_
    rintro e w' ⟨rfl, rfl⟩
    exact ⟨by rw [OrdL.lineOf, if_neg h], rfl⟩
theorem lineOf_wf (a : Int) (h1 : -9223372036854775808 ≤ a) (h2 : a ≤ 9223372036854775807) : (Lit.int .i64 (OrdL.lineOf a)).wf = true := by
  unfold OrdL.lineOf
  split
  · decide
  · exact wf64 (by omega) (by omega)

set_option maxRecDepth 100000 in
set_option maxHeartbeats 1000000 in
theorem kept_any (B r mb bb n : Nat) (t : Tr) (W : Wk) (w : World) (h1 : -9223372036854775808 ≤ t.last.at_) (h2 : t.last.at_ ≤ 9223372036854775807) (h : WAt B w r mb bb n W) :
    Calls Try.prog 15 #[.pointer (some ⟨r, 0, none⟩), .agg (trV t).toArray] w fun e w' => e = .returned (.bool (W.kept t)) ∧ Below w.heap.size w w' := by
  obtain ⟨⟨tk, tc, ta, tv⟩, tp, to⟩ := t
  obtain ⟨dv, h⟩ := h
  simp only [trV, evV, List.cons_append, List.nil_append]
  have hA := h.alloc (.cells #[.int .i64 tk, .int .i64 tc, .int .i64 ta, .int .u64 tv, .int .i64 tp, .bool to] 52)
  have hnew := heap_new w (.cells #[.int .i64 tk, .int .i64 tc, .int .i64 ta, .int .u64 tv, .int .i64 tp, .bool to] 52)
  have hB : Below w.heap.size w (w.alloc (.cells #[.int .i64 tk, .int .i64 tc, .int .i64 ta, .int .u64 tv, .int .i64 tp, .bool to] 52)) := bl_alloc (bl0 w) _
  cases hk : tk == 3 with
  | false =>
    have e1 : W.kept ⟨⟨tk, tc, ta, tv⟩, tp, to⟩ = false := by
      have : decide (tk = 3) = false := by simpa using hk
      simp only [OrdL.Wk.kept, this, Bool.false_and]
    rw [e1]
    clear e1 h
    go_enter Try.func15, Try.ntmps15
    go_wp2_with fail
    generalize w.alloc (.cells #[.int .i64 tk, .int .i64 tc, .int .i64 ta, .int .u64 tv, .int .i64 tp, .bool to] 52) = W1 at *
    have d0 : W1.cell? ⟨w.heap.size, 0, none⟩ = some (.int .i64 tk) := cell_obj hnew 0
    have HB := Lib.hid hB
    clear hA hnew hB
    go_quiet (fail)
    go_wp2_with fail
    go_ret
    exact ⟨rfl, bl_drewN HB.out _⟩
  | true =>
    have hk3 : tk = 3 := by simpa using hk
    subst hk3
    have e1 : W.kept ⟨⟨3, tc, ta, tv⟩, tp, to⟩ = decide (tp < (OrdL.getK (OrdL.lineOf ta) W.backs).getD 0) := by simp [OrdL.Wk.kept]
    rw [e1]
    have L := fun nq => ((hA.backs.kept_heap (w' := (w.alloc (.cells #[.int .i64 3, .int .i64 tc, .int .i64 ta, .int .u64 tv, .int .i64 tp, .bool to] 52)).drewN nq) rfl).run_look Try.underlying3 Try.underlying40 (zeroInt _) (lineOf_wf ta h1 h2))
    simp only [getV_B] at L
    have e2 : ((OrdL.getK (OrdL.lineOf ta) W.backs).map fun t => Value.int .i64 t).getD (.int .i64 0) = .int .i64 ((OrdL.getK (OrdL.lineOf ta) W.backs).getD 0) := by
      cases OrdL.getK (OrdL.lineOf ta) W.backs <;> rfl
    rw [e2] at L
    generalize (OrdL.getK (OrdL.lineOf ta) W.backs).getD 0 = x at L ⊢
    have LN := fun W => line_any ta W h2
    generalize OrdL.lineOf ta = ln at L LN
    clear e1 e2 h hk
    go_enter Try.func15, Try.ntmps15
    go_wp2_with fail
    generalize w.alloc (.cells #[.int .i64 3, .int .i64 tc, .int .i64 ta, .int .u64 tv, .int .i64 tp, .bool to] 52) = W1 at *
    have d0 : W1.cell? ⟨w.heap.size, 0, none⟩ = some (.int .i64 3) := cell_obj hnew 0
    have d2 : W1.cell? ⟨w.heap.size, 2, none⟩ = some (.int .i64 ta) := cell_obj hnew 2
    have d4 : W1.cell? ⟨w.heap.size, 4, none⟩ = some (.int .i64 tp) := cell_obj hnew 4
    have c2 : W1.cell? ⟨r, 2, none⟩ = some (.map (some bb)) := cell_obj hA.obj 2
    have HB := Lib.hid hB
    have HL := Lib.hid LN
    clear hA hnew hB LN
    go_quiet ((go_at_call 23; exact Calls.quiet_of_same (HL.out _)))
    go_wp2_with fail
    go_ret
    exact ⟨rfl, bl_drewN HB.out _⟩
end Go.Proofs.Ytmplhchplehhlaa
