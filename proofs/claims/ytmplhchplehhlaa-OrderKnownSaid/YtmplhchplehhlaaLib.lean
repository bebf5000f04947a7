/- Words for walks, of no program: which blocks a call may turn ('Kp'); a map keyed by integers, its values told as they are ('IMap'). No condition. -/
import Derived.Maps.OwnSet
import Derived.WalkKit
import Derived.Below
import Derived.Deep.Draws
namespace Go.Proofs.Ytmplhchplehhlaa
open Go.RowKit

/-- What a call keeps: each block but those that T tells stays as it is; the streams stay; no block goes. -/
structure Kp (T : Nat → Obj → Prop) (w w' : World) : Prop where
  os : w'.os = w.os
  tape : w'.tape = w.tape
  output : w'.output = w.output
  size : w.heap.size ≤ w'.heap.size
  blk : ∀ k o, w.heap[k]? = some o → ¬ T k o → w'.heap[k]? = some o

section
variable {T T' : Nat → Obj → Prop} {w w' w'' : World}
theorem Kp.refl (T : Nat → Obj → Prop) (w : World) : Kp T w w := ⟨rfl, rfl, rfl, Nat.le_refl _, fun _ _ h _ => h⟩
theorem Kp.trans (h : Kp T w w') (k : Kp T w' w'') : Kp T w w'' :=
  ⟨k.os.trans h.os, k.tape.trans h.tape, k.output.trans h.output, Nat.le_trans h.size k.size, fun i o hi ht => k.blk i o (h.blk i o hi ht) ht⟩
theorem Kp.mono (h : Kp T w w') (ht : ∀ k o, w.heap[k]? = some o → T k o → T' k o) : Kp T' w w' :=
  ⟨h.os, h.tape, h.output, h.size, fun k o hk hn => h.blk k o hk (fun x => hn (ht k o hk x))⟩
theorem Kp.alloc (h : Kp T w w') (o : Obj) : Kp T w (w'.alloc o) :=
  ⟨h.os, h.tape, h.output, Nat.le_trans h.size (by simp), fun k x hk ht => by
    have := h.blk k x hk ht
    rw [Below.heap_alloc _ _ _ (Array.getElem?_eq_some_iff.1 this).1]; exact this⟩
theorem Kp.drew (h : Kp T w w') : Kp T w w'.drew := ⟨h.os, h.tape, h.output, h.size, h.blk⟩
theorem Kp.drewN (h : Kp T w w') (n : Nat) : Kp T w (w'.drewN n) := ⟨h.os, h.tape, h.output, h.size, h.blk⟩
theorem Kp.setCell (h : Kp T w w') {p : Addr} (u : Value) (ht : ∀ o, w.heap[p.block]? = some o → T p.block o) : Kp T w (w'.setCell p u) :=
  ⟨h.os, h.tape, h.output, Nat.le_trans h.size (by simp [World.setCell]), fun k x hk hn => by
    have := h.blk k x hk hn
    rw [Below.heap_setCell _ _ _ _ (fun e => hn (by subst e; exact ht x hk))]; exact this⟩
theorem Kp.grown (h : Kp T w w') {row : Option Nat} (hg : w'.grownBy w'' row) (ht : ∀ k o, row = some k → w.heap[k]? = some o → T k o) : Kp T w w'' :=
  ⟨hg.os.trans h.os, hg.tape.trans h.tape, hg.output.trans h.output, Nat.le_trans h.size hg.size, fun k o hk hn => by
    have h1 := h.blk k o hk hn
    rw [hg.block k (Array.getElem?_eq_some_iff.1 h1).1 (fun e => hn (ht k o e.symm hk))]; exact h1⟩
theorem Kp.of_below (h : Below w.heap.size w w') (T : Nat → Obj → Prop) : Kp T w w' :=
  ⟨h.os, h.tape, h.output, h.size, fun k o hk _ => by rw [h.block k (Array.getElem?_eq_some_iff.1 hk).1]; exact hk⟩
theorem Kp.then_below (h : Kp T w w') (k : Below w'.heap.size w' w'') : Kp T w w'' := h.trans (Kp.of_below k T)
theorem Kp.below {B : Nat} (h : Kp T w w') (hB : B ≤ w.heap.size) (ht : ∀ k o, w.heap[k]? = some o → T k o → B ≤ k) : Below B w w' :=
  ⟨h.os, h.tape, h.output, h.size, fun k hk => by
    obtain ⟨o, ho⟩ : ∃ o, w.heap[k]? = some o := ⟨_, Array.getElem?_eq_getElem (by omega)⟩
    rw [ho]; exact h.blk k o ho (fun x => by have := ht k o ho x; omega)⟩
theorem Kp.cell (h : Kp T w w') {p : Addr} {v : Value} (hc : w.cell? p = some v) (hn : ∀ o, w.heap[p.block]? = some o → ¬ T p.block o) : w'.cell? p = some v := by
  obtain ⟨o, ho⟩ : ∃ o, w.heap[p.block]? = some o := by
    cases e : w.heap[p.block]? with
    | none => simp [World.cell?, e] at hc
    | some o => exact ⟨o, rfl⟩
  rw [World.cell?_of_block (w := w) ((h.blk _ _ ho (hn o ho)).trans ho.symm)]; exact hc
theorem Kp.frozen (h : Kp T w w') {p : Addr} {o : Obj} (ho : w.heap[p.block]? = some o) (hn : ¬ T p.block o) : w'.frozen? p = w.frozen? p :=
  World.frozen?_of_block (w := w) ((h.blk _ _ ho hn).trans ho.symm)
end

theorem heap_new (w : World) (o : Obj) : (w.alloc o).heap[w.heap.size]? = some o := by
  show (w.heap.push o)[w.heap.size]? = some o
  simp
theorem cell_obj {w : World} {b : Nat} {cs : Array Value} {t : TypeId} {f : Nat × Nat} (h : w.heap[b]? = some (.cells cs t f)) (j : Nat) : w.cell? ⟨b, j, none⟩ = cs[j]? := by simp [World.cell?, h]
theorem frozen_obj {w : World} {b : Nat} {cs : Array Value} {t : TypeId} (h : w.heap[b]? = some (.cells cs t (0, 0))) (j : Nat) : w.frozen? ⟨b, j, none⟩ = false := by simp [World.frozen?, h]
theorem cell_new (w : World) (cs : Array Value) (t : TypeId) (f : Nat × Nat) (j : Nat) : (w.alloc (.cells cs t f)).cell? ⟨w.heap.size, j, none⟩ = cs[j]? := cell_obj (heap_new _ _) j
theorem heap_set {w : World} {b : Nat} {cs : Array Value} {t : TypeId} {f : Nat × Nat} (h : w.heap[b]? = some (.cells cs t f)) (j : Nat) (u : Value) :
    (w.setCell ⟨b, j, none⟩ u).heap[b]? = some (.cells (cs.setIfInBounds j u) t f) := by
  simp [World.setCell, Array.getElem?_modify, h]

theorem bl0 (w : World) : Below w.heap.size w w := Below.refl _ _
theorem bl_alloc {w W : World} (h : Below w.heap.size w W) (o : Obj) : Below w.heap.size w (W.alloc o) := h.alloc h.size o
theorem bl_drew {w W : World} (h : Below w.heap.size w W) : Below w.heap.size w W.drew := h.drew
theorem bl_set {w W : World} (h : Below w.heap.size w W) {p : Addr} (hp : w.heap.size ≤ p.block) (u : Value) : Below w.heap.size w (W.setCell p u) := h.setCell hp u
theorem bl_then {w W W' : World} (h : Below w.heap.size w W) (k : Below W.heap.size W W') : Below w.heap.size w W' := h.trans (k.mono h.size)
/-- a row of one element type is no block of another -/
theorem row_ne {w : World} {base : Nat} {e t : TypeId} {size n r : Nat} {v : Value} {xs : List Value} {cs : Array Value} {f : Nat × Nat} (h : w.ownsRow base e size v n xs) (hr : w.heap[r]? = some (.cells cs t f)) (hne : t ≠ e) : v.ownBlock ≠ some r := by
  rcases h.2 with ⟨rfl, _⟩ | ⟨g, cap, cur, rfl, _, hg, _⟩
  · simp [Value.ownBlock]
  · intro e1
    simp only [Value.ownBlock, Option.some.injEq] at e1
    subst e1
    rw [hg] at hr
    simp at hr
    exact hne hr.2.1.symm
theorem row_ne_map {w : World} {base : Nat} {e : TypeId} {size n r : Nat} {v : Value} {xs : List Value} {es : Array MapEntry} {c : Nat} (h : w.ownsRow base e size v n xs) (hr : w.heap[r]? = some (.map es c)) : v.ownBlock ≠ some r := by
  rcases h.2 with ⟨rfl, _⟩ | ⟨g, cap, cur, rfl, _, hg, _⟩
  · simp [Value.ownBlock]
  · intro e1
    simp only [Value.ownBlock, Option.some.injEq] at e1
    subst e1
    rw [hg] at hr
    simp at hr
theorem row_obj {w : World} {base : Nat} {e : TypeId} {size n : Nat} {v : Value} {xs : List Value} (h : w.ownsRow base e size v n xs) {k : Nat} (hk : v.ownBlock = some k) : ∃ cs, w.heap[k]? = some (.cells cs e (0, 0)) := by
  rcases h.2 with ⟨rfl, _⟩ | ⟨g, cap, cur, rfl, _, hg, _⟩
  · simp [Value.ownBlock] at hk
  · simp only [Value.ownBlock, Option.some.injEq] at hk
    subst hk
    exact ⟨_, hg⟩
theorem row_base {w : World} {base : Nat} {e : TypeId} {size n : Nat} {v : Value} {xs : List Value} (h : w.ownsRow base e size v n xs) {k : Nat} (hk : v.ownBlock = some k) : base ≤ k := by
  rcases h.2 with ⟨rfl, _⟩ | ⟨g, cap, cur, rfl, hb, hg, _⟩
  · simp [Value.ownBlock] at hk
  · simp only [Value.ownBlock, Option.some.injEq] at hk
    subst hk
    exact hb
/-- a row stays while another block is turned -/
theorem row_kept {w w' : World} {base : Nat} {e : TypeId} {size n : Nat} {v : Value} {xs : List Value} (h : w.ownsRow base e size v n xs) (hb : ∀ k, v.ownBlock = some k → w'.heap[k]? = w.heap[k]?) : w'.ownsRow base e size v n xs := by
  obtain ⟨h1, h2⟩ := h
  refine ⟨h1, ?_⟩
  rcases h2 with h2 | ⟨g, cap, cur, hv, hg, hh, r⟩
  · exact Or.inl h2
  · exact Or.inr ⟨g, cap, cur, hv, hg, (hb g (by rw [hv]; rfl)).trans hh, r⟩

/-! ### a map keyed by integers -/
def getV (k : Int) : List (Int × Value) → Option Value
  | [] => none
  | (k', x) :: r => if k' = k then some x else getV k r
def delV (k : Int) (l : List (Int × Value)) : List (Int × Value) := l.filter fun p => p.1 != k
def insV (x : Int × Value) : List (Int × Value) → List (Int × Value)
  | [] => [x]
  | y :: r => if x.1 < y.1 then x :: y :: r else y :: insV x r
def putV (k : Int) (x : Value) (l : List (Int × Value)) : List (Int × Value) := insV (k, x) (delV k l)

def heldR : Value → Option (DataW Value × List MemPlace) := fun v => some (.held v, [])
def litI (p : Int × Value) : Lit × DataW Value := (.int .i64 p.1, .held p.2)
def IMap (w : World) (P : Program) (k : TypeId) (b n : Nat) (l : List (Int × Value)) : Prop := w.ownsMap P k heldR b n (.map (l.map litI))

theorem insV_lit (x : Int × Value) (l : List (Int × Value)) : DataW.insert (litI x) (l.map litI) = (insV x l).map litI := by
  induction l with
  | nil => rfl
  | cons y l ih =>
    simp only [List.map_cons, DataW.insert, insV]
    have : (litI x).1.before (litI y).1 = decide (x.1 < y.1) := rfl
    rw [this]
    by_cases h : x.1 < y.1 <;> simp [h, ih]
theorem delV_lit (k : Int) (l : List (Int × Value)) : (l.map litI).filter (fun p => !p.1.sameKey (.int .i64 k)) = (delV k l).map litI := by
  induction l with
  | nil => rfl
  | cons y l ih =>
    have : (litI y).1.sameKey (.int .i64 k) = decide (y.1 = k) := by simp [litI, Lit.sameKey]
    simp only [List.map_cons, List.filter_cons, delV, this]
    by_cases h : y.1 = k
    · simp [h]; exact ih
    · simp [h]; exact ih
theorem put_lit (k : Int) (v : Value) (l : List (Int × Value)) : (DataW.map (l.map litI)).put (.int .i64 k) (.held v) = .map ((putV k v l).map litI) := by
  simp only [DataW.put, delV_lit, putV]
  rw [← insV_lit]; rfl
theorem del_lit (k : Int) (l : List (Int × Value)) : (DataW.map (l.map litI)).del (.int .i64 k) = .map ((delV k l).map litI) := by
  simp only [DataW.del, delV_lit]
theorem at_lit (k : Int) (z : Value) (l : List (Int × Value)) : (DataW.map (l.map litI)).atKey (.int .i64 k) (.held z) = .held ((getV k l).getD z) := by
  induction l with
  | nil => rfl
  | cons y l ih =>
    obtain ⟨k', x⟩ := y
    simp only [DataW.atKey, List.map_cons, List.find?_cons] at ih ⊢
    have : (litI (k', x)).1.sameKey (.int .i64 k) = decide (k' = k) := by simp [litI, Lit.sameKey]
    rw [this]
    by_cases h : k' = k
    · simp [h, getV, litI]
    · simp only [h, decide_false, getV, if_false]; exact ih
theorem has_lit (k : Int) (l : List (Int × Value)) : Maps.has (DataW.map (l.map litI)) (.int .i64 k) = (getV k l).isSome := by
  induction l with
  | nil => rfl
  | cons y l ih =>
    obtain ⟨k', x⟩ := y
    simp only [Maps.has, List.map_cons, List.any_cons] at ih ⊢
    have : (litI (k', x)).1.sameKey (.int .i64 k) = decide (k' = k) := by simp [litI, Lit.sameKey]
    rw [this]
    by_cases h : k' = k
    · simp [h, getV]
    · simp only [h, decide_false, getV, if_false, Bool.false_or]; exact ih

section
variable {P : Program} {k : TypeId} {w w' : World} {b n : Nat} {l : List (Int × Value)}
theorem IMap.made (w : World) (P : Program) (k : TypeId) : IMap (w.alloc (.map #[] 0)) P k w.heap.size 0 [] := World.ownsMap_made w P k heldR
theorem IMap.kept_heap (h : IMap w P k b n l) (hb : w'.heap[b]? = w.heap[b]?) : IMap w' P k b n l := by
  obtain ⟨es, clock, h1, h2⟩ := h
  exact ⟨es, clock, hb.trans h1, h2⟩
theorem IMap.lt (h : IMap w P k b n l) : b < w.heap.size := World.ownsMap.lt h
theorem IMap.isMap (h : IMap w P k b n l) : ∃ es c, w.heap[b]? = some (.map es c) := by obtain ⟨es, c, h1, _⟩ := h; exact ⟨es, c, h1⟩
theorem IMap.kept {T : Nat → Obj → Prop} (h : IMap w P k b n l) (hk : Kp T w w') (hn : ∀ es c, ¬ T b (.map es c)) : IMap w' P k b n l := by
  obtain ⟨es, c, h1⟩ := h.isMap
  exact h.kept_heap ((hk.blk _ _ h1 (hn es c)).trans h1.symm)
theorem IMap.alloc (h : IMap w P k b n l) (o : Obj) : IMap (w.alloc o) P k b n l := h.kept_heap (Below.heap_alloc _ _ _ h.lt)
theorem IMap.drew (h : IMap w P k b n l) : IMap w.drew P k b n l := h
theorem IMap.mono {n' : Nat} (h : IMap w P k b n l) (hn : n ≤ n') : IMap w P k b n' l := World.ownsMap.mono h hn
theorem IMap.tight (h : IMap w P k b n l) : IMap w P k b l.length l := by
  obtain ⟨es, c, h1, F, _, hD⟩ := h
  refine ⟨es, c, h1, F, ?_, hD⟩
  have e := congrArg (fun D => match D with | .map es => List.length es | _ => 0) hD
  simp only [List.length_map, length_read] at e
  omega
theorem IMap.setCell (h : IMap w P k b n l) {p : Addr} (hp : p.block ≠ b) (u : Value) : IMap (w.setCell p u) P k b n l := h.kept_heap (Below.heap_setCell _ _ _ _ (fun e => hp e.symm))
end

theorem IMap.run_look_ok {P : Program} {k e t : TypeId} {w : World} {b n : Nat} {l : List (Int × Value)} (h : IMap w P k b n l) (hk : P.underlying k = some (.int .i64)) (ht : P.underlying t = some (.map k e)) {z : Value} (hz : (zeroValue e).run P w = .ok z w) {key : Int}
    (hwf : (Lit.int .i64 key).wf = true) : (Instr.lookup t (.map (some b)) (.int .i64 key) true).run P w = .ok (.tuple #[(getV key l).getD z, .bool (getV key l).isSome]) w := by
  obtain ⟨v, ps, hrun, hv⟩ := World.ownsMap.look_ok h (Maps.int_keyed hk) ht hz (zd := .held z) (zp := []) rfl (Maps.keyOf_int_mk hk hwf)
  rw [at_lit] at hv
  simp only [heldR, Option.some.injEq, Prod.mk.injEq, DataW.held.injEq] at hv
  rw [hrun, has_lit, hv.1]
theorem IMap.run_look {P : Program} {k e t : TypeId} {w : World} {b n : Nat} {l : List (Int × Value)} (h : IMap w P k b n l) (hk : P.underlying k = some (.int .i64)) (ht : P.underlying t = some (.map k e)) {z : Value} (hz : (zeroValue e).run P w = .ok z w) {key : Int}
    (hwf : (Lit.int .i64 key).wf = true) : (Instr.lookup t (.map (some b)) (.int .i64 key) false).run P w = .ok ((getV key l).getD z) w := by
  obtain ⟨v, ps, hrun, hv⟩ := World.ownsMap.lookup h (Maps.int_keyed hk) ht hz (zd := .held z) (zp := []) rfl (Maps.keyOf_int_mk hk hwf)
  rw [at_lit] at hv
  simp only [heldR, Option.some.injEq, Prod.mk.injEq, DataW.held.injEq] at hv
  rw [hrun, hv.1]

theorem wf64 {a : Int} (h1 : -9223372036854775808 ≤ a) (h2 : a ≤ 9223372036854775807) : (Lit.int .i64 a).wf = true := by
  exact WalkArith.wf_i64 (by omega)

section
variable {P : Program} (w : World) {ops : Array Oper} {rest : List Oper} {o : Oper} {a : Act} {Q : Exit → Act → World → Prop}
/-- 'v, ok := m[k]' -/
theorem wpList_ilook_ok (hg : o.guard = none) (m x : Operand) (t : TypeId) (hop : o.op = Op.lookup t m x true)
    (k e : TypeId) (hk : P.underlying k = some (.int .i64)) (ht : P.underlying t = some (.map k e)) {z : Value} (hz : (zeroValue e).run P w = .ok z w) (b n : Nat) (l : List (Int × Value))
    (hm : a.eval m = .map (some b)) (hown : IMap w P k b n l) (key : Int) (hwf : (Lit.int .i64 key).wf = true) (hx : a.eval x = .int .i64 key)
    (hK : wpList P ops Q rest (a.put o.dst (.tuple #[(getV key l).getD z, .bool (getV key l).isSome])) w) :
    wpList P ops Q (o :: rest) a w :=
  wpList_lookup_own_ok w hg m x t hop k e (Maps.int_keyed hk) ht heldR hz (.held z) [] rfl b n _ hm hown _ (.int .i64 key) hx (Maps.keyOf_int_mk hk hwf) (fun v ps hv => by
    rw [at_lit] at hv
    simp only [heldR, Option.some.injEq, Prod.mk.injEq, DataW.held.injEq] at hv
    rw [has_lit, hv.1]; exact hK)
/-- 'v := m[k]' -/
theorem wpList_ilook (hg : o.guard = none) (m x : Operand) (t : TypeId) (hop : o.op = Op.lookup t m x false)
    (k e : TypeId) (hk : P.underlying k = some (.int .i64)) (ht : P.underlying t = some (.map k e)) {z : Value} (hz : (zeroValue e).run P w = .ok z w) (b n : Nat) (l : List (Int × Value))
    (hm : a.eval m = .map (some b)) (hown : IMap w P k b n l) (key : Int) (hwf : (Lit.int .i64 key).wf = true) (hx : a.eval x = .int .i64 key)
    (hK : wpList P ops Q rest (a.put o.dst ((getV key l).getD z)) w) :
    wpList P ops Q (o :: rest) a w := by
  refine wpList_plain hg fun K' hK' => ?_
  obtain ⟨v, ps, hrun, hv⟩ := World.ownsMap.lookup hown (Maps.int_keyed hk) ht hz (zd := .held z) (zp := []) rfl (Maps.keyOf_int_mk hk hwf)
  rw [at_lit] at hv
  simp only [heldR, Option.some.injEq, Prod.mk.injEq, DataW.held.injEq] at hv
  rw [← hv.1] at hK
  unfold Oper.wp
  simp [execOp, hop, hm, hx, hrun, Result.andThen]
  exact hK' _ _ hK
/-- 'm[k] = v' -/
theorem wpList_iput (hg : o.guard = none) (m x v : Operand) (t : TypeId) (hop : o.op = Op.mapUpdate t m x v)
    (k e : TypeId) (hk : P.underlying k = some (.int .i64)) (ht : P.underlying t = some (.map k e)) (b n : Nat) (l : List (Int × Value))
    (hm : a.eval m = .map (some b)) (hown : IMap w P k b n l) (hn : n < maxLen) (key : Int) (hwf : (Lit.int .i64 key).wf = true) (val : Value) (hx : a.eval x = .int .i64 key) (hv : a.eval v = val)
    (hK : ∀ w', IMap w' P k b (n + 1) (putV key val l) → w.grownBy w' (some b) → wpList P ops Q rest (a.put o.dst undef) w') :
    wpList P ops Q (o :: rest) a w :=
  wpList_mapUpdate_own w hg m x v t hop k e (Maps.int_keyed hk) ht heldR b n _ hm hown hn _ val (.int .i64 key) hx hv (Maps.keyOf_int_mk hk hwf) (.held val) [] rfl
    (fun w' h1 h2 => hK w' (by rw [put_lit] at h1; exact h1) h2)
/-- 'delete(m, k)' -/
theorem wpList_idel (hg : o.guard = none) (m x : Operand) (t k : TypeId) (hop : o.op = Op.call { callee := Callee.builtin Builtin.delete, args := #[m, x], argTypes := #[t, k] })
    (e : TypeId) (hk : P.underlying k = some (.int .i64)) (ht : P.underlying t = some (.map k e)) (b n : Nat) (l : List (Int × Value))
    (hm : a.eval m = .map (some b)) (hown : IMap w P k b n l) (key : Int) (hwf : (Lit.int .i64 key).wf = true) (hx : a.eval x = .int .i64 key)
    (hK : ∀ w', IMap w' P k b n (delV key l) → w.grownBy w' (some b) → wpList P ops Q rest (a.put o.dst (.tuple #[])) w') :
    wpList P ops Q (o :: rest) a w :=
  wpList_delete_own w hg m x t k hop e (Maps.int_keyed hk) ht heldR b n _ hm hown _ (.int .i64 key) hx (Maps.keyOf_int_mk hk hwf)
    (fun w' h1 h2 => hK w' (by rw [del_lit] at h1; exact h1) h2.grown)
end
end Go.Proofs.Ytmplhchplehhlaa
