/- slices.Values over a row of ints: its closure gives each int in turn, to whatever loop keeps the row's block. -/
import Derived.Test.YtmplhchplehhlaaRF
import Derived.Test.YtmplhchplehhlaaOrdRep
namespace Go.Proofs.Ytmplhchplehhlaa
open Go.RowKit Go.Shelf
attribute [local go_sem] Oper.semAt_some

/-- the row's block is as it was -/
def SameAt (s : Nat) (A B : World) : Prop := B.heap[s]? = A.heap[s]?
theorem SameAt.refl (s : Nat) (A : World) : SameAt s A A := rfl
theorem SameAt.trans {s : Nat} {A B C : World} (h : SameAt s A B) (k : SameAt s B C) : SameAt s A C := Eq.trans k h
def upto {β : Type} (f : Nat → β) (k : Nat) : List β := (List.range k).map f
theorem upto_succ {β : Type} (f : Nat → β) (k : Nat) : upto f (k + 1) = upto f k ++ [f k] := by simp [upto, List.range_succ]
theorem upto_length {β : Type} (f : Nat → β) (k : Nat) : (upto f k).length = k := by simp [upto]
theorem upto_take {β : Type} (zs : List β) (f : Nat → β) (hf : ∀ j, j < zs.length → zs[j]? = some (f j)) {k : Nat} (hk : k ≤ zs.length) : upto f k = zs.take k := by
  apply List.ext_getElem?
  intro i
  rw [List.getElem?_take]
  by_cases h : i < k
  · simp [upto, h, hf i (by omega)]
  · simp [upto, h]
theorem upto_all {β : Type} (zs : List β) (f : Nat → β) (hf : ∀ j, j < zs.length → zs[j]? = some (f j)) : upto f zs.length = zs := by rw [upto_take zs f hf (Nat.le_refl _), List.take_length]

set_option maxRecDepth 100000 in
set_option maxHeartbeats 2000000 in
theorem values1_in {α : Type} (val : α → Int) (f : Nat → α) (n : Nat) (hn : 1 ≤ n) (l Bs s len cap : Nat) (hreach : len ≤ 1000000000) (J Jx : List α → World → Prop)
    (hY : ∀ pre x W, J pre W → pre.length < len → YieldAt Fence.wide (n - 1) Try.prog l #[.int .i64 (val x)] W fun e W' =>
      (e = .returned (.bool true) ∧ J (pre ++ [x]) W' ∧ SameAt s W W') ∨ (e = .returned (.bool false) ∧ Jx (pre ++ [x]) W'))
    (W : World) (hBs : W.cell? ⟨Bs, 0, none⟩ = some (.slice (some ⟨s, 0, none⟩) len cap)) (hc : ∀ j, j < len → W.cell? ⟨s, j, none⟩ = some (.int .i64 (val (f j)))) (h0 : J [] W) :
    CallsIn Fence.wide n Try.prog 27 #[.func (.yield l) #[] #[], .pointer (some ⟨Bs, 0, none⟩)] W fun e W' => (∃ v, e = .returned v) ∧
      ((∃ ys, ys = upto f len ∧ J ys W') ∨ (∃ pre, (∃ k, k ≤ len ∧ pre = upto f k) ∧ Jx pre W')) := by
  refine callsIn_of_wp Try.func27 rfl trivial ?_ rfl
  simp only [Try.ntmps27, List.size_toArray, List.length_cons, List.length_nil, Nat.reduceAdd, Nat.reduceSub, Array.replicate_succ, Array.replicate_zero, List.push_toArray, List.append_toArray, List.nil_append, List.cons_append]
  gi_wp2
  gi_loopw [7] (fun i wr => ∃ k : Nat, k ≤ len ∧ i = .int .i64 k ∧ J (upto f k) wr ∧ SameAt s W wr)
    (fun i _ => len - (intOf i).toNat)
  case atStart => exact ⟨0, Nat.zero_le _, rfl, h0, SameAt.refl _ _⟩
  case round =>
    obtain ⟨k, hk, rfl, hJs, hnx⟩ := hrel
    have hcx : k < len → wr.cell? ⟨s, k, none⟩ = some (.int .i64 (val (f k))) := fun h => (World.cell?_of_block (w := W) (a := ⟨s, k, none⟩) hnx).trans (hc k h)
    by_cases hlt : k < len
    · obtain ⟨fn, tmps, assign, body, hy, hR⟩ := hY _ (f k) wr hJs (by rw [upto_length]; exact hlt)
      have hcx' := hcx hlt
      have NX := Lib.hid hnx
      clear hnx hcx
      gi_wp2
      refine hR.mono ?_
      rintro e W3 (⟨rfl, hJ3, hk3⟩ | ⟨rfl, hJx3⟩)
      · have NX3 := Lib.hid (NX.out.trans hk3)
        clear hk3
        gi_wp2
        go_roundw
        case rel => exact ⟨k + 1, by omega, by simp, by rw [upto_succ]; exact hJ3, NX3.out⟩
        case measure => simp [intOf]; omega
      · gi_wp2
        refine bodyPost_ret (results_none rfl _ _ _) rfl ?_
        exact ⟨⟨_, rfl⟩, .inr ⟨_, ⟨k + 1, by omega, (upto_succ _ _).symm⟩, hJx3⟩⟩
    · obtain rfl : k = len := by omega
      gi_wp2
      go_end0
      exact ⟨⟨_, rfl⟩, .inl ⟨_, rfl, hJs⟩⟩

set_option maxRecDepth 100000 in
set_option maxHeartbeats 1000000 in
theorem values1_nil_in {α : Type} (n : Nat) (l Bs : Nat) (J : List α → World → Prop) (W : World) (hBs : W.cell? ⟨Bs, 0, none⟩ = some (.slice none 0 0)) (h0 : J [] W) :
    CallsIn Fence.wide n Try.prog 27 #[.func (.yield l) #[] #[], .pointer (some ⟨Bs, 0, none⟩)] W fun e W' => (∃ v, e = .returned v) ∧ J [] W' := by
  refine callsIn_of_wp Try.func27 rfl trivial ?_ rfl
  simp only [Try.ntmps27, List.size_toArray, List.length_cons, List.length_nil, Nat.reduceAdd, Nat.reduceSub, Array.replicate_succ, Array.replicate_zero, List.push_toArray, List.append_toArray, List.nil_append, List.cons_append]
  gi_wp2
  gi_loopw [7] (fun i wr => i = .int .i64 0 ∧ J [] wr) (fun _ _ => 0)
  case atStart => exact ⟨rfl, h0⟩
  case round =>
    obtain ⟨rfl, hJs⟩ := hrel
    gi_wp2
    go_end0
    exact ⟨⟨_, rfl⟩, hJs⟩

set_option maxHeartbeats 1000000 in
theorem values_any (sv : Value) (w : World) (hs : ∃ a n c, sv = .slice a n c) :
    Calls Try.prog 20 #[sv] w fun e w' => e = .returned (.func (.func 27) #[] #[.pointer (some ⟨w.heap.size, 0, none⟩)]) ∧ w.alloc (.cells #[sv] 27) = w' := by
  obtain ⟨a, n, c, rfl⟩ := hs
  go_enter Try.func20, Try.ntmps20
  go_wp2
  go_ret
  exact ⟨rfl, rfl⟩

/-- the int of a cell of a row -/
theorem row_cell_int {α : Type} {val : α → Int} {w : World} {base s n cap : Nat} {e : TypeId} {zs : List α} (h : w.ownsRow base e 1 (.slice (some ⟨s, 0, none⟩) n cap) n (zs.map fun x => Value.int .i64 (val x))) : zs.length = n ∧ ∀ j x, zs[j]? = some x → w.cell? ⟨s, j, none⟩ = some (.int .i64 (val x)) := by
  have hl : zs.length = n := by have := h.1; simpa using this
  refine ⟨hl, fun j x hx => ?_⟩
  have hj := (List.getElem?_eq_some_iff.1 hx).1
  rcases h.2 with ⟨hv, _⟩ | ⟨g, cap', cur, hv, _, hg, h1, h2, h3, h4⟩
  · cases hv
  · cases hv
    rw [cell_obj hg]
    have e1 : (cur.toList.take (n * 1))[j]? = (zs.map fun x => Value.int .i64 (val x))[j]? := by rw [h4]
    rw [List.getElem?_take, if_pos (by omega), List.getElem?_map, hx] at e1
    simpa using e1

theorem values_stops {α : Type} [Inhabited α] (val : α → Int) (n : Nat) (hn : 1 ≤ n) (Bs base s : Nat) (sv : Value) (zs : List α) (hreach : zs.length ≤ 1000000000) (w : World) (hBs : Bs < w.heap.size)
    (hc : w.cell? ⟨Bs, 0, none⟩ = some sv) (hI : w.ownsRow base 3 1 sv zs.length (zs.map fun x => Value.int .i64 (val x))) (hs : sv.ownBlock = none ∨ sv.ownBlock = some s) :
    SeqStopsK Fence.wide n Try.prog 27 #[.pointer (some ⟨Bs, 0, none⟩)] (fun x : α => #[Value.int .i64 (val x)]) (SameAt s) (fun ys => ys = zs) (fun pre => pre <+: zs) zs.length w := fun l J Jx W hW _ _ hY h0 => by
  have hc' := (hW.cell (p := ⟨Bs, 0, none⟩) hBs).trans hc
  by_cases hz : zs = []
  · subst hz
    have hsv : sv = .slice none 0 0 ∨ ∃ g cap, sv = .slice (some ⟨g, 0, none⟩) 0 cap := by
      rcases hI.2 with ⟨hv, _⟩ | ⟨g, cap, cur, hv, _⟩
      · exact .inl hv
      · exact .inr ⟨g, cap, hv⟩
    rcases hsv with rfl | ⟨g, cap, rfl⟩
    · exact (values1_nil_in n l Bs J W hc' h0).mono fun e W' ⟨he, hj⟩ => ⟨he, .inl ⟨_, rfl, hj⟩⟩
    · refine (values1_in val (fun _ => default) n hn l Bs g 0 cap (by omega) J Jx (fun _ _ _ _ h => absurd h (Nat.not_lt_zero _)) W hc' (fun _ h => absurd h (Nat.not_lt_zero _)) h0).mono ?_
      rintro e W' ⟨he, ⟨ys, rfl, hj⟩ | ⟨pre, ⟨k, hk, rfl⟩, hj⟩⟩
      · exact ⟨he, .inl ⟨_, rfl, hj⟩⟩
      · exact ⟨he, .inr ⟨_, by simp [show k = 0 by omega, upto], hj⟩⟩
  · have hpos : 0 < zs.length := List.length_pos_iff.2 hz
    obtain ⟨g, cap, rfl, _, hlt⟩ := hI.form hpos
    have hgs : g = s := by rcases hs with hs | hs <;> simp [Value.ownBlock] at hs; exact hs
    subst hgs
    have hIW : W.ownsRow base 3 1 (.slice (some ⟨g, 0, none⟩) zs.length cap) zs.length (zs.map fun x => Value.int .i64 (val x)) := row_kept hI (fun k hk => by simp only [Value.ownBlock, Option.some.injEq] at hk; subst hk; exact hW.block _ hlt)
    have hf : ∀ j, j < zs.length → zs[j]? = some (zs.getD j (zs.head hz)) := fun j hj => by simp [hj]
    refine (values1_in val (fun j => zs.getD j (zs.head hz)) n hn l Bs g zs.length cap hreach J Jx hY W hc' (fun j hj => (row_cell_int hIW).2 j _ (hf j hj)) h0).mono ?_
    rintro e W' ⟨he, ⟨ys, rfl, hj⟩ | ⟨pre, ⟨k, hk, rfl⟩, hj⟩⟩
    · exact ⟨he, .inl ⟨_, upto_all zs _ hf, hj⟩⟩
    · exact ⟨he, .inr ⟨_, by rw [upto_take zs _ hf hk]; exact List.take_prefix _ _, hj⟩⟩
/-- an int of 64 bits -/
abbrev I64 := { x : Int // (Lit.int .i64 x).wf = true }
instance : Inhabited I64 := ⟨⟨0, by decide⟩⟩
theorem lift64 : ∀ (l : List Int), (∀ k ∈ l, (Lit.int .i64 k).wf = true) → ∃ l' : List I64, l'.map (·.1) = l
  | [], _ => ⟨[], rfl⟩
  | x :: l, h => by
    obtain ⟨l', hl⟩ := lift64 l (fun k hk => h k (by simp [hk]))
    exact ⟨⟨x, h x (by simp)⟩ :: l', by simp [hl]⟩
end Go.Proofs.Ytmplhchplehhlaa
