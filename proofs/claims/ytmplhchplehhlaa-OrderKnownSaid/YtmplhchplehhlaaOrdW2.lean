/- Walks over chapter 24's methods: goes. -/
import Derived.Test.YtmplhchplehhlaaOrdW1
import Derived.Deep.QuietTactic
import Derived.BigQuiet
namespace Go.Proofs.Ytmplhchplehhlaa
open Go.RowKit
open OrdL (Ev Tr Wk)

theorem WRep.below {w w' : World} {B r mb bb n : Nat} {dv : Value} {W : Wk} (h : WRep B w r mb bb n dv W) (hb : Below w.heap.size w w') : WRep B w' r mb bb n dv W :=
  ⟨(hb.block r (Array.getElem?_eq_some_iff.1 h.obj).1).trans h.obj, h.tries.kept_heap (hb.block _ h.tries.lt), h.backs.kept_heap (hb.block _ h.backs.lt),
    row_kept h.deeds (fun k hk => hb.block k (by obtain ⟨cs, hcs⟩ := row_obj h.deeds hk; exact (Array.getElem?_eq_some_iff.1 hcs).1)), h.ne, h.base, h.len, h.lenB⟩

theorem goes_any (B r mb bb n : Nat) (ev : Ev) (W : Wk) (w : World) (hwf : (Lit.int .i64 ev.core).wf = true) (h : WAt B w r mb bb n W) :
    Calls Try.prog 19 #[.pointer (some ⟨r, 0, none⟩), .agg (evV ev).toArray] w fun e w' => e = .returned (.bool (W.goes ev)) ∧ Below w.heap.size w w' := by
  obtain ⟨dv, h⟩ := h
  have hlt := (Array.getElem?_eq_some_iff.1 h.obj).1
  obtain ⟨ek, ec, ea, ev⟩ := ev
  have hA := h.alloc (.cells #[.int .i64 ek, .int .i64 ec, .int .i64 ea, .int .u64 ev] 26)
  cases hg : OrdL.getK ec W.tries with
  | none =>
    have e1 : W.goes ⟨ek, ec, ea, ev⟩ = false := by simp [OrdL.Wk.goes, hg]
    rw [e1]
    have L1 := hA.drew.tries.run_look_ok Try.underlying3 Try.underlying39 (zeroTry _) hwf
    have L2 := ((hA.alloc (.cells #[.int .i64 0, .int .i64 0, .int .i64 0, .int .u64 0, .int .i64 0, .bool false] 52)).drew).tries.run_look_ok Try.underlying3 Try.underlying39 (zeroTry _) hwf
    rw [getV_T, hg] at L1 L2
    simp only [Option.map_none, Option.getD_none, Option.isSome_none] at L1 L2
    have c0 : w.cell? ⟨r, 0, none⟩ = some (.map (some mb)) := cell_obj h.obj 0
    clear hg e1 hA h
    simp only [evV]
    go_enter Try.func19, Try.ntmps19
    go_wp2
    go_region
    all_goals
      go_wp2
      go_ret
      exact ⟨rfl, (by repeat (first | exact bl0 _ | refine bl_drew ?_ | refine bl_alloc ?_ _ | refine bl_set ?_ (by first | exact Nat.le_refl _ | (simp <;> omega)) _))⟩
  | some t =>
    obtain ⟨⟨tk, tc, ta, tv⟩, tp, to⟩ := t
    have e1 : W.goes ⟨ek, ec, ea, ev⟩ = (to && (ta == ea) && ((ek == 2) || (ek == 3))) := by simp [OrdL.Wk.goes, hg]; rfl
    rw [e1]
    have L1 := hA.drew.tries.run_look_ok Try.underlying3 Try.underlying39 (zeroTry _) hwf
    have L2 := ((hA.alloc (.cells #[.int .i64 0, .int .i64 0, .int .i64 0, .int .u64 0, .int .i64 0, .bool false] 52)).drew).tries.run_look_ok Try.underlying3 Try.underlying39 (zeroTry _) hwf
    rw [getV_T, hg] at L1 L2
    simp only [Option.map_some, Option.getD_some, Option.isSome_some, trV, evV, List.cons_append, List.nil_append] at L1 L2
    have c0 : w.cell? ⟨r, 0, none⟩ = some (.map (some mb)) := cell_obj h.obj 0
    clear hg e1 hA h
    simp only [evV]
    cases h1 : to
    case false =>
      subst h1
      go_enter Try.func19, Try.ntmps19
      go_wp2
      go_region
      all_goals
        go_wp2
        go_ret
        exact ⟨rfl, (by repeat (first | exact bl0 _ | refine bl_drew ?_ | refine bl_alloc ?_ _ | refine bl_set ?_ (by first | exact Nat.le_refl _ | (simp <;> omega)) _))⟩
    case true =>
      subst h1
      cases h2 : ta == ea
      case false =>
        go_enter Try.func19, Try.ntmps19
        go_wp2
        go_region
        all_goals
          go_wp2
          go_ret
          exact ⟨rfl, (by repeat (first | exact bl0 _ | refine bl_drew ?_ | refine bl_alloc ?_ _ | refine bl_set ?_ (by first | exact Nat.le_refl _ | (simp <;> omega)) _))⟩
      case true =>
        cases h3 : ek == 2
        case true =>
          go_enter Try.func19, Try.ntmps19
          go_wp2
          go_region
          all_goals
            go_wp2
            go_ret
            exact ⟨rfl, (by repeat (first | exact bl0 _ | refine bl_drew ?_ | refine bl_alloc ?_ _ | refine bl_set ?_ (by first | exact Nat.le_refl _ | (simp <;> omega)) _))⟩
        case false =>
          go_enter Try.func19, Try.ntmps19
          go_wp2
          go_region
          all_goals
            go_wp2
            go_ret
            exact ⟨rfl, (by repeat (first | exact bl0 _ | refine bl_drew ?_ | refine bl_alloc ?_ _ | refine bl_set ?_ (by first | exact Nat.le_refl _ | (simp <;> omega)) _))⟩
end Go.Proofs.Ytmplhchplehhlaa
