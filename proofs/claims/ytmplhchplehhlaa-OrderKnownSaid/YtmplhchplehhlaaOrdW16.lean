/- Walks over chapter 24: the row OrderKnown. -/
import Derived.Test.YtmplhchplehhlaaOrdW15
import Derived.Deep.RegionWith
namespace Go.Proofs.Ytmplhchplehhlaa
open Go.RowKit Go.Maps Go.Shelf
open OrdL (Ev Tr Wk)

theorem name_world {P : Program} {c : Code} {Q : Exit → Act → World → Prop} {a : Act} {w : World} (h : ∀ W, W = w → Code.wp P c Q a W) : Code.wp P c Q a w := h w rfl

theorem known_fit' : ∀ l ∈ knownEv, l.length ≤ 1000 ∧ ∀ e ∈ l, (-9223372036854775808 ≤ e.core ∧ e.core ≤ 9223372036854775807) ∧ (-9223372036854775808 ≤ e.at_ ∧ e.at_ ≤ 9223372036854775807) := by decide
theorem known_fit (k : Nat) (hk : k < 21) : (kEv k).length ≤ 1000 ∧ ∀ e ∈ kEv k, OrdL.Fit64 e.core ∧ OrdL.Fit64 e.at_ := by
  have hm : kEv k ∈ knownEv := by
    unfold kEv
    rw [List.getD_eq_getElem?_getD, List.getElem?_eq_getElem (by exact hk)]
    exact List.getElem_mem _
  exact known_fit' _ hm

theorem known_same (k s b : Nat) (v : Value) (W w3 : World) (hk : k < 21) (hR : W.ownsRow 0 3 1 (kWant s k) (kOut k).length ((kOut k).map (Value.int .i64))) (hr : w3.ownsRow b 3 1 v (OrdL.of (kEv k)).length ((OrdL.of (kEv k)).map (Value.int .i64))) (hb : Below W.heap.size W w3) :
    Calls Try.prog 8 #[v, kWant s k] w3 fun e w' => e = .returned (.bool true) ∧ Below w3.heap.size w3 w' := by
  have hl : (OrdL.of (kEv k)).length ≤ 1000 := Nat.le_trans (of_length _) (known_fit k hk).1
  have ho := known_of k hk
  rw [ho] at hr hl
  have := same_any b 0 v (kWant s k) (kOut k) (kOut k) w3 (by omega) (by omega) hr (row_below hR hb)
  rw [decide_eq_true rfl] at this
  exact this

set_option maxRecDepth 100000 in
set_option maxHeartbeats 8000000 in
theorem known_any (k : Nat) (hk : k < 21) (w : World) :
    Calls Try.prog 4 #[.int .i64 k] w fun e w' => e = .returned (.bool true) ∧ Below w.heap.size w w' := by
  have hk1 : ¬ ((k : Int) < 0) := by omega
  have hk2 : ¬ ((21 : Int) ≤ (k : Int)) := by omega
  go_enter Try.func4, Try.ntmps4
  go_wp2_with fail
  refine (alive_any w).mono ?_
  rintro e w1 ⟨rfl, hb⟩
  have HW := Lib.hid hb
  clear hb
  go_wp2_with fail
  simp only [Nat.add_assoc, Nat.reduceAdd]
  refine name_world ?_
  intro W2 hW2
  have hW3 : W2 = allocs w1 (knownObjs w1.heap.size) := hW2
  clear hW2
  obtain ⟨d1, d2, d3, d4⟩ := known_world k hk w1
  have hB := allocs_below (knownObjs w1.heap.size) w1
  have hS := allocs_size (knownObjs w1.heap.size) w1
  have hL : (knownObjs w1.heap.size).length = 49 := rfl
  rw [← hW3] at d1 d2 d3 d4 hB
  rw [← hW3, hL] at hS
  clear hW3 hL
  have HB := Lib.hid (bl_then HW.out hB)
  have HE := Lib.hid d2
  have HR := Lib.hid d4
  have hlt1 : w1.heap.size + (9 + k) < W2.heap.size := by omega
  have hlt2 : w1.heap.size + 48 < W2.heap.size := by omega
  have hw1 : w.heap.size ≤ W2.heap.size := HB.out.size
  clear d2 d4 hB HW hS
  go_region_with (first
    | (go_at_call 7; refine (of_any (w1.heap.size + (9 + k)) 0 (kEv k).length (kEv k) _ (known_fit k hk).1 (known_fit k hk).2 (by exact HE.out) (by exact hlt1)).mono ?_; rintro e w3 ⟨v, rfl, hrow, hb3'⟩; have hb3 : Below W2.heap.size W2 w3 := bl_then (bl_drew (bl0 W2)) hb3'; have d5 : w3.cell? ⟨w1.heap.size + 48, k, none⟩ = some (kWant w1.heap.size k) := (hb3.cell (p := ⟨w1.heap.size + 48, k, none⟩) hlt2).trans d3; have S := Lib.hid (known_same k w1.heap.size _ v W2 w3 hk HR.out hrow hb3); have HB3 := Lib.hid (HB.out.trans (hb3.mono hw1)); clear hrow hb3 hb3')
    | (go_at_call 8; refine S.out.mono ?_; rintro e w4 ⟨rfl, hb4⟩; have HB4 := Lib.hid (HB3.out.trans (hb4.mono HB3.out.size)); clear hb4))
  all_goals (go_wp2_with fail)
  all_goals go_ret
  all_goals exact ⟨rfl, HB4.out⟩
end Go.Proofs.Ytmplhchplehhlaa
