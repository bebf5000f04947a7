/- Walks over chapter 24: the row OrderOuts. -/
import Derived.Test.YtmplhchplehhlaaOrdW12
import Derived.OpenShut
namespace Go.Proofs.Ytmplhchplehhlaa
open Go.RowKit Go.Maps Go.Shelf
open OrdL (Ev Tr Wk)

theorem flat_evs (l : List Ev) : ∀ (j r : Nat), r < 4 → ∀ ev, l[j]? = some ev → (l.flatMap evV)[j * 4 + r]? = (evV ev)[r]? := by
  induction l with
  | nil => intro j r _ ev h; simp at h
  | cons e l ih =>
    intro j r hr ev h
    cases j with
    | zero =>
      simp only [List.getElem?_cons_zero, Option.some.injEq] at h; subst h
      rw [List.flatMap_cons, List.getElem?_append_left (by simp [evV]; omega)]
      simp
    | succ j =>
      rw [List.flatMap_cons, List.getElem?_append_right (by simp [evV]; omega)]
      simp only [List.getElem?_cons_succ] at h
      have := ih j r hr ev h
      rw [← this]
      congr 1
      simp [evV]; omega
theorem flat_len (l : List Ev) : (l.flatMap evV).length = l.length * 4 := by
  induction l with
  | nil => rfl
  | cons e l ih => simp only [List.flatMap_cons, List.length_append, ih, List.length_cons]; simp [evV]; omega

theorem evs_row {w : World} {g n : Nat} {cur : Array Value} {t : TypeId} {f : Nat × Nat} {l : List Ev} (hg : w.heap[g]? = some (.cells cur t f)) (h4 : cur.toList.take (n * 4) = l.flatMap evV) (hn : n = l.length) : EvsAt w g 0 l := by
  intro j ev hj
  have hjl := (List.getElem?_eq_some_iff.1 hj).1
  have key : ∀ r, r < 4 → w.cell? ⟨g, 0 + j * 4 + r, none⟩ = (evV ev)[r]? := fun r hr => by
    rw [cell_obj hg]
    have e1 : (cur.toList.take (n * 4))[j * 4 + r]? = (l.flatMap evV)[j * 4 + r]? := by rw [h4]
    rw [List.getElem?_take, if_pos (by omega), flat_evs l j r hr ev hj] at e1
    rw [Nat.zero_add]
    simpa using e1
  exact ⟨key 0 (by decide), key 1 (by decide), key 2 (by decide), key 3 (by decide)⟩

theorem row_base_mono {w : World} {b b' : Nat} {e : TypeId} {size n : Nat} {v : Value} {xs : List Value} (h : w.ownsRow b e size v n xs) (hb : b' ≤ b) : w.ownsRow b' e size v n xs := by
  obtain ⟨h1, h2⟩ := h
  refine ⟨h1, ?_⟩
  rcases h2 with h2 | ⟨g, cap, cur, hv, hg, r⟩
  · exact Or.inl h2
  · exact Or.inr ⟨g, cap, cur, hv, Nat.le_trans hb hg, r⟩

set_option maxRecDepth 100000 in
set_option maxHeartbeats 2000000 in
theorem of_empty (a : Option Addr) (c : Nat) (w : World) :
    Calls Try.prog 7 #[.slice a 0 c] w fun e w' => ∃ v, e = .returned v ∧ w'.ownsRow w.heap.size 3 1 v 0 [] ∧ Below w.heap.size w w' := by
  obtain ⟨i0, hi, hz0, hz1, hz2⟩ := info_parts infoI
  go_enter Try.func7, Try.ntmps7
  go_wp2_with fail
  refine (begin_any w.heap.size w (Nat.le_refl _)).mono ?_
  rintro e w0 ⟨⟨r, mb, bb, rfl, hr, hmb, hbb, hW⟩, hb0⟩
  have HB := Lib.hid hb0
  have E := Lib.hid (close_any w.heap.size r mb bb 0 0 Wk.zero w0 OrdL.Good.zero (by omega) hW)
  have hsz := hb0.size
  clear hW hb0
  go_wp2_with fail
  go_loopw [10, 3, 4] (fun i o p wr => i = .int .i64 0 ∧ o = .slice none 0 0 ∧ p = .pointer (some ⟨r, 0, none⟩) ∧ wr = w0) (fun _ _ _ _ => 0)
  case atStart => exact ⟨rfl, rfl, rfl, rfl⟩
  case round =>
    obtain ⟨rfl, rfl, rfl, rfl⟩ := hrel
    go_wp2_with fail
    refine E.out.mono ?_
    rintro e w1 ⟨v, rfl, hrow, hlen, hk1⟩
    have hz : Wk.zero.close = [] := by simp [OrdL.Wk.close, OrdL.Wk.closed, OrdL.sortD, Wk.zero]
    rw [hz] at hrow
    have HR := Lib.hid hrow
    have HB1 := Lib.hid (HB.out.trans (hk1.below hsz (fun j o _ ht => ht.1)))
    have hsz1 : w.heap.size ≤ w1.heap.size := HB1.out.size
    clear hrow hk1 E hlen hz
    go_wp2_with (at_builtin; refine wpList_append_row rfl (.tmp 30) (.tmp 32) 27 rfl w.heap.size 3 i0 (.int .i64 0) 1 8 Try.underlying27 hi hz0 hz1 hz2 rfl (by decide) (.slice none 0 0) 0 [] rfl (World.ownsRow_nil _ _ _ _) v _ 0 [] rfl HR.out (by simp) (by unfold maxLen; omega) (by omega) hsz1 ?_; intro v4 w4 hown4 hgrow4; have HO4 := Lib.hid hown4; have HB4 := Lib.hid (HB1.out.grown hgrow4 HB1.out.size (fun j hj => by simp [Value.ownBlock] at hj)); clear hown4 hgrow4)
    go_ret
    exact ⟨v4, rfl, HO4.out, HB4.out⟩

theorem of_row (B : Nat) (v : Value) (l : List Ev) (w : World) (hl : l.length ≤ 1000) (hf : ∀ e ∈ l, OrdL.Fit64 e.core ∧ OrdL.Fit64 e.at_) (hown : w.ownsRow B 26 4 v l.length (l.flatMap evV)) :
    Calls Try.prog 7 #[v] w fun e w' => ∃ v', e = .returned v' ∧ w'.ownsRow w.heap.size 3 1 v' (OrdL.of l).length ((OrdL.of l).map (Value.int .i64)) ∧ Below w.heap.size w w' := by
  rcases hown.2 with ⟨rfl, h0⟩ | ⟨g, cap, cur, rfl, _, hg, _, _, _, h4⟩
  · have : l = [] := List.eq_nil_of_length_eq_zero h0
    subst this
    have hz : OrdL.of [] = [] := OrdL.of_outs [] (fun c => ⟨4, c, 0, 0⟩) (fun _ => ⟨rfl, rfl⟩)
    rw [hz]
    exact of_empty none 0 w
  · exact of_any g 0 cap l w hl hf (evs_row hg h4 rfl) (Array.getElem?_eq_some_iff.1 hg).1

theorem infoE : (Try.prog.info? 26).map (fun i => (i.zero, i.size, i.bytes)) = some (some (.agg #[.int .i64 0, .int .i64 0, .int .i64 0, .int .u64 0]), 4, 32) := by kernel_rfl
def msk (x : Int) : Int := bits .and .i64 x 3
theorem msk_fit (x : Int) : OrdL.Fit64 (msk x) := by
  exact bounds_i64 (wf_bits .and .i64 x 3)

theorem fit0 : OrdL.Fit64 0 := ⟨by decide, by decide⟩
def outEv (c : Int) : Ev := ⟨4, c, 0, 0⟩
/-- what OrderOuts asks for behind k of its numbers -/
def outs (zs : List Int) (k : Nat) : List Int := (zs.take k).map msk
theorem outs_next {zs : List Int} {k : Nat} {x : Int} (h : zs[k]? = some x) : outs zs (k + 1) = outs zs k ++ [msk x] := by
  simp [outs, List.take_add_one, h]
theorem outs_len {zs : List Int} {k : Nat} (h : k ≤ zs.length) : (outs zs k).length = k := by simp [outs, h]

theorem flat_next (cs : List Int) (c : Int) : ((cs ++ [c]).map outEv).flatMap evV = (cs.map outEv).flatMap evV ++ [.int .i64 4, .int .i64 c, .int .i64 0, .int .u64 0] := by
  simp [evV, outEv]

theorem row_lt {w : World} {base : Nat} {e : TypeId} {size n : Nat} {v : Value} {xs : List Value} (h : w.ownsRow base e size v n xs) {k : Nat} (hk : v.ownBlock = some k) : k < w.heap.size := by
  obtain ⟨cs, hcs⟩ := row_obj h hk
  exact (Array.getElem?_eq_some_iff.1 hcs).1
/-- a row stays while a row of another element type grows -/
theorem row_grown2 {w w' : World} {b1 b2 : Nat} {e1 e2 : TypeId} {s1 s2 n1 n2 : Nat} {v1 v2 : Value} {x1 x2 : List Value} {o : Obj} (h1 : (w.alloc o).ownsRow b1 e1 s1 v1 n1 x1) (h2 : w.ownsRow b2 e2 s2 v2 n2 x2) (hg : (w.alloc o).grownBy w' v2.ownBlock) (hne : e1 ≠ e2) : w'.ownsRow b1 e1 s1 v1 n1 x1 :=
  row_kept h1 (fun k hk => hg.block k (row_lt h1 hk) (fun e => by
    obtain ⟨c1, d1⟩ := row_obj h1 hk
    obtain ⟨c2, d2⟩ := row_obj h2 e.symm
    rw [Below.heap_alloc _ _ _ (Array.getElem?_eq_some_iff.1 d2).1, d2] at d1
    cases d1
    exact hne rfl))

set_option maxRecDepth 100000 in
set_option maxHeartbeats 2000000 in
theorem outs_any (a0 : Option Addr) (len0 cap0 : Nat) (zs : List Int) (w : World) (hl : len0 ≤ zs.length) (hx : 0 < len0 → ∃ x, a0 = some x ∧ x.block < w.heap.size ∧ ∀ j, j < len0 → w.cell? (x.add j) = some (.int .i64 (zs.getD j 0))) :
    Calls Try.prog 5 #[.slice a0 len0 cap0] w fun e w' => e = .returned (.bool true) ∧ Below w.heap.size w w' := by
  obtain ⟨i0, hi, hz0, hz1, hz2⟩ := info_parts infoI
  obtain ⟨i1, hi', hz0', hz1', hz2'⟩ := info_parts infoE
  by_cases hlt : 200 < len0
  · have hg : ((200 : Int) < (len0 : Int)) := by omega
    clear hx
    go_enter Try.func5, Try.ntmps5
    go_wp2_with fail
    refine (alive_any w).mono ?_
    rintro e w1 ⟨rfl, hb⟩
    have HB := Lib.hid hb
    clear hb
    go_wp2_with fail
    go_ret
    exact ⟨rfl, HB.out⟩
  · have hg : ¬ ((200 : Int) < (len0 : Int)) := by omega
    have HX := Lib.hid hx
    clear hx
    go_enter Try.func5, Try.ntmps5
    go_wp2_with fail
    refine (alive_any w).mono ?_
    rintro e w1 ⟨rfl, hb⟩
    have HB := Lib.hid hb
    clear hb
    go_wp2_with fail
    go_loopw [4, 5, 6] (fun o' q' i wr => ∃ (o q : Value) (k : Nat), o = o' ∧ q = q' ∧ k ≤ len0 ∧ i = .int .i64 k ∧ wr.ownsRow w.heap.size 26 4 o k (((outs zs k).map outEv).flatMap evV) ∧ wr.ownsRow w.heap.size 3 1 q k ((outs zs k).map (Value.int .i64)) ∧ Below w.heap.size w wr) (fun _ _ i _ => len0 - (intOf i).toNat)
    case atStart => exact ⟨_, _, 0, rfl, rfl, Nat.zero_le _, rfl, World.ownsRow_nil _ _ _ _, World.ownsRow_nil _ _ _ _, HB.out⟩
    case round =>
      obtain ⟨o, q, k, rfl, rfl, hk, rfl, ho, hq, hbw⟩ := hrel
      by_cases hlt2 : k < len0
      · obtain ⟨x, rfl, hxb, hxc⟩ := HX.out (by omega)
        obtain ⟨z, hz⟩ : ∃ z, zs[k]? = some z := ⟨_, List.getElem?_eq_getElem (by omega)⟩
        have d0 : wr.cell? (x.add k) = some (.int .i64 z) := by
          have e1 : (x.add k).block = x.block := by unfold Addr.add; split <;> rfl
          have := (hbw.cell (p := x.add k) (by rw [e1]; exact hxb)).trans (hxc k hlt2)
          rwa [List.getD_eq_getElem?_getD, hz] at this
        have hk1 : (k : Int) < (len0 : Int) := by omega
        have HBW := Lib.hid hbw
        have HO := Lib.hid ho
        have HQ := Lib.hid hq
        have HZ := Lib.hid hz
        have hszw : w.heap.size ≤ wr.heap.size := hbw.size
        clear hbw ho hq hz hxc HX HB
        go_wp2_with (first
          | (at_builtin; refine wpList_append_own _ rfl (.tmp 28) (.tmp 31) 22 rfl w.heap.size 26 i1 (.agg #[.int .i64 0, .int .i64 0, .int .i64 0, .int .u64 0]) 4 32 Try.underlying22 hi' hz0' hz1' hz2' rfl (by decide) o k (((outs zs k).map outEv).flatMap evV) rfl (HO.out.alloc _) ⟨wr.heap.size, 0, none⟩ 1 1 [.int .i64 4, .int .i64 (msk z), .int .i64 0, .int .u64 0] rfl rfl (World.news_of_block (heap_new wr (.cells #[.int .i64 4, .int .i64 (msk z), .int .i64 0, .int .u64 0] 26))) (by simp [Value.oneCell']) (by unfold maxLen; omega) (by omega) (by simp; omega) ?_; intro v4 w4 hown4 hgrow4 _; have HO4 := Lib.hid hown4; have HG4 := Lib.hid hgrow4; have HB4 := Lib.hid ((HBW.out.alloc hszw _).grown hgrow4 (by simp; omega) (fun j hj => row_base HO.out hj)); have HQ4 := Lib.hid (row_grown2 (HQ.out.alloc _) HO.out hgrow4 (by decide)); have hszw4 : w.heap.size ≤ w4.heap.size := HB4.out.size; clear hown4 hgrow4)
          | (at_builtin; refine wpList_append_own _ rfl (.tmp 33) (.tmp 35) 27 rfl w.heap.size 3 i0 (.int .i64 0) 1 8 Try.underlying27 hi hz0 hz1 hz2 rfl (by decide) q k ((outs zs k).map (Value.int .i64)) rfl (HQ4.out.alloc _) ⟨w4.heap.size, 0, none⟩ 1 1 [.int .i64 (msk z)] rfl rfl (World.news_of_block (heap_new w4 (.cells #[.int .i64 (msk z)] 3))) (by simp [Value.oneCell']) (by unfold maxLen; omega) (by omega) (by simp; omega) ?_; intro v5 w5 hown5 hgrow5 _; have HQ5 := Lib.hid hown5; have HB5 := Lib.hid ((HB4.out.alloc hszw4 _).grown hgrow5 (by simp; omega) (fun j hj => row_base HQ4.out hj)); have HO5 := Lib.hid (row_grown2 (HO4.out.alloc _) HQ4.out hgrow5 (by decide)); clear hown5 hgrow5))
        refine ⟨⟨_, _, k + 1, rfl, rfl, by omega, by go_num, ?_, ?_, HB5.out⟩, by simp [intOf]; omega⟩
        · rw [outs_next HZ.out, flat_next]; exact HO5.out
        · rw [outs_next HZ.out, List.map_append]; exact HQ5.out
      · obtain rfl : k = len0 := by omega
        have hle : (outs zs k).length = k := outs_len hl
        have hof : OrdL.of ((outs zs k).map outEv) = outs zs k := OrdL.of_outs (outs zs k) outEv (fun _ => ⟨rfl, rfl⟩)
        have O := of_row w.heap.size o ((outs zs k).map outEv) wr (by simp [hle]; omega) (fun e he => by
          obtain ⟨c, hc, rfl⟩ := List.mem_map.1 he
          obtain ⟨x, _, rfl⟩ := List.mem_map.1 hc
          exact ⟨msk_fit x, fit0⟩) (by rw [List.length_map, hle]; exact ho)
        rw [hof] at O
        have HO := Lib.hid O
        have HQ := Lib.hid hq
        have HW := Lib.hid hbw
        have HL := Lib.hid hle
        have hszw : w.heap.size ≤ wr.heap.size := hbw.size
        clear O ho hq hbw hof HX HB hle
        go_wp2_with fail
        refine HO.out.mono ?_
        rintro e w2 ⟨v, rfl, hrow, hb2⟩
        have S := same_any _ _ v q _ _ w2 (by rw [HL.out]; omega) (by rw [HL.out]; omega) hrow (by rw [HL.out]; exact row_kept HQ.out (fun j hj => hb2.block j (row_lt HQ.out hj)))
        have HS := Lib.hid S
        have HW2 := Lib.hid (HW.out.trans (hb2.mono hszw))
        clear S hrow hb2 HO
        go_wp2_with fail
        refine HS.out.mono ?_
        rintro e w3 ⟨rfl, hb3⟩
        simp only [decide_true]
        have HW3 := Lib.hid (HW2.out.trans (hb3.mono HW2.out.size))
        clear hb3
        go_wp2_with fail
        go_ret
        exact ⟨rfl, HW3.out⟩
end Go.Proofs.Ytmplhchplehhlaa
