/- Walks over chapter 24: Of, of nothing; SameInts; alive. -/
import Derived.Test.YtmplhchplehhlaaOrdW11
namespace Go.Proofs.Ytmplhchplehhlaa
open Go.RowKit Go.Maps Go.Shelf
open OrdL (Ev Tr Wk)

set_option maxRecDepth 100000 in
set_option maxHeartbeats 2000000 in
theorem of_nil (w : World) :
    Calls Try.prog 7 #[.slice none 0 0] w fun e w' => ∃ v, e = .returned v ∧ w'.ownsRow 0 3 1 v 0 [] ∧ Below w.heap.size w w' := by
  obtain ⟨i0, hi, hz0, hz1, hz2⟩ := info_parts infoI
  go_enter Try.func7, Try.ntmps7
  go_wp2_with fail
  refine (begin_any w.heap.size w (Nat.le_refl _)).mono ?_
  rintro e w0 ⟨⟨r, mb, bb, rfl, hr, hmb, hbb, hW⟩, hb0⟩
  have HB := Lib.hid hb0
  have E := Lib.hid (close_any w.heap.size r mb bb 0 0 Wk.zero w0 OrdL.Good.zero (by omega) hW)
  have hsz := hb0.size
  clear hW hb0
  go_wp2_with fail
  go_loopw [10, 3, 4] (fun i o p wr => i = .int .i64 0 ∧ o = .slice none 0 0 ∧ p = .pointer (some ⟨r, 0, none⟩) ∧ wr = w0) (fun _ _ _ _ => 0)
  case atStart => exact ⟨rfl, rfl, rfl, rfl⟩
  case round =>
    obtain ⟨rfl, rfl, rfl, rfl⟩ := hrel
    go_wp2_with fail
    refine E.out.mono ?_
    rintro e w1 ⟨v, rfl, hrow, hlen, hk1⟩
    have hz : Wk.zero.close = [] := by simp [OrdL.Wk.close, OrdL.Wk.closed, OrdL.sortD, Wk.zero]
    rw [hz] at hrow
    have HR := Lib.hid hrow
    have HB1 := Lib.hid (HB.out.trans (hk1.below hsz (fun j o _ ht => ht.1)))
    clear hrow hk1 E hlen hz
    go_wp2_with (at_builtin; refine wpList_append_row rfl (.tmp 30) (.tmp 32) 27 rfl 0 3 i0 (.int .i64 0) 1 8 Try.underlying27 hi hz0 hz1 hz2 rfl (by decide) (.slice none 0 0) 0 [] rfl (World.ownsRow_nil _ _ _ _) v _ 0 [] rfl HR.out (by simp) (by unfold maxLen; omega) (by omega) (Nat.zero_le _) ?_; intro v4 w4 hown4 hgrow4; have HO4 := Lib.hid hown4; have HB4 := Lib.hid (HB1.out.grown hgrow4 HB1.out.size (fun j hj => by simp [Value.ownBlock] at hj)); clear hown4 hgrow4)
    go_ret
    exact ⟨v4, rfl, HO4.out, HB4.out⟩

theorem row_slice {w : World} {base n size : Nat} {e : TypeId} {v : Value} {xs : List Value} (h : w.ownsRow base e size v n xs) : ∃ a cap, v = .slice a n cap ∧ (0 < n → ∃ g, a = some ⟨g, 0, none⟩ ∧ ∃ cur, w.heap[g]? = some (.cells cur e (0, 0)) ∧ cur.toList.take (n * size) = xs) := by
  rcases h.2 with ⟨hv, h0⟩ | ⟨g, cap, cur, hv, _, hg, h1, h2, h3, h4⟩
  · subst h0; exact ⟨none, 0, hv, fun h => by omega⟩
  · exact ⟨_, cap, hv, fun _ => ⟨g, rfl, cur, hg, h4⟩⟩

/-- an int of a row of ints -/
theorem row_int {w : World} {g n : Nat} {e : TypeId} {cur : Array Value} {l : List Int} (hg : w.heap[g]? = some (.cells cur e (0, 0))) (h4 : cur.toList.take (n * 1) = l.map (Value.int .i64)) {j : Nat} {x : Int} (hj : j < n) (hx : l[j]? = some x) : w.cell? ⟨g, j, none⟩ = some (.int .i64 x) := by
  rw [cell_obj hg]
  have e1 : (cur.toList.take (n * 1))[j]? = (l.map (Value.int .i64))[j]? := by rw [h4]
  rw [List.getElem?_take, if_pos (by omega), List.getElem?_map, hx] at e1
  simpa using e1

set_option maxRecDepth 100000 in
set_option maxHeartbeats 1000000 in
theorem same_any (b1 b2 : Nat) (v1 v2 : Value) (l1 l2 : List Int) (w : World) (hm : l1.length < 1000000000) (hm2 : l2.length < 1000000000) (h1 : w.ownsRow b1 3 1 v1 l1.length (l1.map (Value.int .i64))) (h2 : w.ownsRow b2 3 1 v2 l2.length (l2.map (Value.int .i64))) :
    Calls Try.prog 8 #[v1, v2] w fun e w' => e = .returned (.bool (decide (l1 = l2))) ∧ Below w.heap.size w w' := by
  obtain ⟨a1, c1, rfl, f1⟩ := row_slice h1
  obtain ⟨a2, c2, rfl, f2⟩ := row_slice h2
  clear h1 h2
  by_cases hlen : l1.length = l2.length
  · have hne : ((l1.length : Int) != (l2.length : Int)) = false := by simp [hlen]
    have F1 := Lib.hid f1
    have F2 := Lib.hid f2
    have HL := Lib.hid hlen
    have hle1 : l1.length ≤ l2.length := by omega
    have hle2 : l2.length ≤ l1.length := by omega
    clear f1 f2 hlen
    go_enter Try.func8, Try.ntmps8
    go_wp2_with fail
    go_loopw [5] (fun i wr => ∃ k : Nat, k ≤ l1.length ∧ i = .int .i64 k ∧ l1.take k = l2.take k ∧ Below w.heap.size w wr) (fun i _ => l1.length - (intOf i).toNat)
    case atStart => exact ⟨0, Nat.zero_le _, rfl, rfl, Below.refl _ _⟩
    case round =>
      obtain ⟨k, hk, rfl, heq, hb⟩ := hrel
      have HE := Lib.hid heq
      have HB := Lib.hid hb
      clear heq hb
      by_cases hlt : k < l1.length
      · obtain ⟨g1, e1, cur1, hg1, ht1⟩ := F1.out (by omega)
        obtain ⟨g2, e2, cur2, hg2, ht2⟩ := F2.out (by omega)
        obtain ⟨x, hx⟩ : ∃ x, l1[k]? = some x := ⟨_, List.getElem?_eq_getElem hlt⟩
        obtain ⟨y, hy⟩ : ∃ y, l2[k]? = some y := ⟨_, List.getElem?_eq_getElem (by omega)⟩
        have d1 : wr.cell? ⟨g1, k, none⟩ = some (.int .i64 x) := (HB.out.cell (p := ⟨g1, k, none⟩) (Array.getElem?_eq_some_iff.1 hg1).1).trans (row_int hg1 ht1 hlt hx)
        have d2 : wr.cell? ⟨g2, k, none⟩ = some (.int .i64 y) := (HB.out.cell (p := ⟨g2, k, none⟩) (Array.getElem?_eq_some_iff.1 hg2).1).trans (row_int hg2 ht2 (by omega) hy)
        have HX := Lib.hid hx
        have HY := Lib.hid hy
        clear hx hy hg1 ht1 hg2 ht2 F1 F2
        subst e1
        subst e2
        have hk1 : (k : Int) < (l1.length : Int) := by omega
        have hk2 : (k : Int) < (l2.length : Int) := by omega
        by_cases hxy : x = y
        · subst hxy
          have hne2 : (x != x) = false := by simp
          go_wp2
          go_quiet (fail)
          go_wp2
          go_roundw
          case rel =>
            refine ⟨k + 1, by omega, by go_num, ?_, ?_⟩
            · rw [List.take_add_one, List.take_add_one, HE.out, HX.out, HY.out]
            · exact ⟨HB.out.os, HB.out.tape, HB.out.output, HB.out.size, HB.out.block⟩
          case measure => simp [intOf]; omega
        · have hne2 : (x != y) = true := by rw [bne_iff_ne]; exact hxy
          go_wp2
          go_quiet (fail)
          go_wp2
          go_ret
          refine ⟨?_, ⟨HB.out.os, HB.out.tape, HB.out.output, HB.out.size, HB.out.block⟩⟩
          have : l1 ≠ l2 := fun e => by
            subst e
            have := HX.out.symm.trans HY.out
            exact hxy (Option.some.inj this)
          rw [decide_eq_false this]
          rfl
      · obtain rfl : k = l1.length := by omega
        go_wp2
        go_ret
        refine ⟨?_, HB.out⟩
        have h3 : l1 = l2 := by
          have := HE.out
          rw [List.take_length, HL.out, List.take_length] at this
          exact this
        rw [decide_eq_true h3]
        rfl
  · have hne : ((l1.length : Int) != (l2.length : Int)) = true := by rw [bne_iff_ne]; omega
    have hd : decide (l1 = l2) = false := decide_eq_false (fun e => hlen (by rw [e]))
    have HD := Lib.hid hd
    clear f1 f2 hd
    go_enter Try.func8, Try.ntmps8
    go_wp2
    go_ret
    exact ⟨by rw [HD.out]; rfl, Below.refl _ _⟩

set_option maxRecDepth 100000 in
set_option maxHeartbeats 1000000 in
theorem alive_any (w : World) : Calls Try.prog 6 #[] w fun e w' => e = .returned (.bool true) ∧ Below w.heap.size w w' := by
  have hc : EvsAt (w.alloc (.cells #[.int .i64 4, .int .i64 2, .int .i64 0, .int .u64 0] 26)) w.heap.size 0 [⟨4, 2, 0, 0⟩] := by
    intro j ev hj
    match j, hj with
    | 0, hj =>
      simp at hj; subst hj
      exact ⟨cell_new _ _ _ _ 0, cell_new _ _ _ _ 1, cell_new _ _ _ _ 2, cell_new _ _ _ _ 3⟩
  have O := of_any w.heap.size 0 1 [⟨4, 2, 0, 0⟩] (w.alloc (.cells #[.int .i64 4, .int .i64 2, .int .i64 0, .int .u64 0] 26)) (by simp) (fun e he => by simp at he; subst he; exact ⟨⟨by decide, by decide⟩, ⟨by decide, by decide⟩⟩) hc (by simp)
  have ho : OrdL.of [⟨4, 2, 0, 0⟩] = [2] := OrdL.of_outs [2] (fun c => ⟨4, c, 0, 0⟩) (fun _ => ⟨rfl, rfl⟩)
  rw [ho] at O
  have HO := Lib.hid O
  clear O ho hc
  go_enter Try.func6, Try.ntmps6
  go_wp2_with fail
  refine HO.out.mono ?_
  rintro e w1 ⟨v, rfl, hrow, hb⟩
  obtain ⟨a, cap, rfl, hf⟩ := row_slice hrow
  obtain ⟨g, rfl, cur, hg, ht⟩ := hf (by simp)
  have hd : w1.cell? ⟨g, 0, none⟩ = some (.int .i64 2) := row_int hg ht (by simp) (by rfl : [(2 : Int)][0]? = some 2)
  have HB := Lib.hid ((bl_alloc (bl0 w) _).trans (hb.mono (by simp)))
  have HC := Lib.hid hd
  have hgl := (Array.getElem?_eq_some_iff.1 hg).1
  clear hrow hb hf hg ht hd HO
  go_wp2_with fail
  refine (of_nil w1).mono ?_
  rintro e w2 ⟨v2, rfl, hrow2, hb2⟩
  obtain ⟨a2, cap2, rfl, _⟩ := row_slice hrow2
  have hd2 : w2.cell? ⟨g, 0, none⟩ = some (.int .i64 2) := (hb2.cell (p := ⟨g, 0, none⟩) hgl).trans HC.out
  have HB2 := Lib.hid (HB.out.trans (hb2.mono HB.out.size))
  clear hrow2 hb2
  go_wp2
  go_ret
  exact ⟨rfl, HB2.out⟩
end Go.Proofs.Ytmplhchplehhlaa
