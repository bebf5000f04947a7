/- Walks over chapter 24: event, at any event; Of. -/
import Derived.Test.YtmplhchplehhlaaOrdW5
import Derived.Test.YtmplhchplehhlaaOrdW10
import Derived.Test.YtmplhchplehhlaaLib2
namespace Go.Proofs.Ytmplhchplehhlaa
open Go.RowKit Go.Maps Go.Shelf
open OrdL (Ev Tr Wk)

theorem event_any (B r mb bb n : Nat) (i : Int) (ev : Ev) (W : Wk) (w : World) (hf : OrdL.Fit64 ev.core ∧ OrdL.Fit64 ev.at_) (hi : 0 ≤ i) (hi2 : i < 1000000) (hn : n < 1000000) (hG : OrdL.Good W i) (h : WAt B w r mb bb n W) :
    Calls Try.prog 10 #[.pointer (some ⟨r, 0, none⟩), .int .i64 i, .agg (evV ev).toArray] w fun e w' => e = .returned (.tuple #[]) ∧ WAt B w' r mb bb (n + 1) (W.event i ev) ∧ Kp (TW B mb bb) w w' := by
  obtain ⟨K, ec, ea, evv⟩ := ev
  have h1 : (Lit.int .i64 ec).wf = true := wf64 hf.1.1 hf.1.2
  have h2 : (Lit.int .i64 ea).wf = true := wf64 hf.2.1 hf.2.2
  have hkeys : ∀ k ∈ W.tries.map (·.1), (Lit.int .i64 k).wf = true := fun k hk => by
    obtain ⟨⟨k', t'⟩, hm, rfl⟩ := List.mem_map.1 hk
    exact wf64 (hG.fit _ _ hm).1.1 (hG.fit _ _ hm).1.2
  by_cases c1 : K = 1 ∨ K = 2 ∨ K = 3
  · exact event_tried K c1 B r mb bb n i ec ea evv W w h1 hn h
  by_cases c4 : K = 4
  · subst c4; exact event_out B r mb bb n i ec ea evv W w h1 hn h
  by_cases c6 : K = 6 ∨ K = 10
  · exact event_end K c6 B r mb bb n i ec ea evv W w h1 hn h
  by_cases c9 : K = 9
  · subst c9; exact event_start B r mb bb n i ec ea evv W w hG.srt hn h hkeys
  by_cases c7 : K = 7
  · subst c7; exact event_back B r mb bb n i ec ea evv W w h2 hi hi2 hn h
  · exact event_none K (by omega) B r mb bb n i ec ea evv W w h

/-- the events of a slice at ⟨b, off⟩ -/
def EvsAt (w : World) (b off : Nat) (l : List Ev) : Prop := ∀ j ev, l[j]? = some ev → w.cell? ⟨b, off + j * 4, none⟩ = some (.int .i64 ev.kind) ∧ w.cell? ⟨b, off + j * 4 + 1, none⟩ = some (.int .i64 ev.core) ∧ w.cell? ⟨b, off + j * 4 + 2, none⟩ = some (.int .i64 ev.at_) ∧ w.cell? ⟨b, off + j * 4 + 3, none⟩ = some (.int .u64 ev.v)

set_option maxRecDepth 100000 in
set_option maxHeartbeats 2000000 in
theorem of_any (b off cap : Nat) (l : List Ev) (w : World) (hl : l.length ≤ 1000) (hf : ∀ e ∈ l, OrdL.Fit64 e.core ∧ OrdL.Fit64 e.at_) (hc : EvsAt w b off l) (hb : b < w.heap.size) :
    Calls Try.prog 7 #[.slice (some ⟨b, off, none⟩) l.length cap] w fun e w' => ∃ v, e = .returned v ∧ w'.ownsRow w.heap.size 3 1 v (OrdL.of l).length ((OrdL.of l).map (Value.int .i64)) ∧ Below w.heap.size w w' := by
  obtain ⟨i0, hi, hz0, hz1, hz2⟩ := info_parts infoI
  have HC := Lib.hid hc
  have HF := Lib.hid hf
  clear hc hf
  go_enter Try.func7, Try.ntmps7
  go_wp2_with fail
  refine (begin_any w.heap.size w (Nat.le_refl _)).mono ?_
  rintro e w0 ⟨⟨r, mb, bb, rfl, hr, hmb, hbb, hW⟩, hb0⟩
  have HW := Lib.hid hW
  have HB := Lib.hid hb0
  clear hW hb0
  go_wp2_with fail
  go_loopw [10, 3, 4] (fun i o' p wr => ∃ (o : Value) (k m r mb bb : Nat) (W : Wk) (out : List Int), o = o' ∧ k ≤ l.length ∧ i = .int .i64 k ∧ p = .pointer (some ⟨r, 0, none⟩) ∧ m ≤ k ∧ out.length + m ≤ 2 * k ∧ OrdL.of l = OrdL.ofGo (l.drop k) k W out ∧ OrdL.Good W k ∧
      WAt w.heap.size wr r mb bb m W ∧ wr.ownsRow w.heap.size 3 1 o out.length (out.map (Value.int .i64)) ∧ Below w.heap.size w wr) (fun i _ _ _ => l.length - (intOf i).toNat)
  case atStart => exact ⟨_, 0, 0, r, mb, bb, Wk.zero, [], rfl, Nat.zero_le _, rfl, rfl, Nat.le_refl _, by simp, rfl, OrdL.Good.zero, HW.out, World.ownsRow_nil _ _ _ _, HB.out⟩
  case round =>
    obtain ⟨o, k, m, r', mb', bb', W, out, rfl, hk, rfl, rfl, hmk, hout, heq, hG, hW, hown, hbw⟩ := hrel
    by_cases hlt : k < l.length
    · obtain ⟨ev, hev⟩ : ∃ ev, l[k]? = some ev := ⟨_, List.getElem?_eq_getElem hlt⟩
      obtain ⟨e0, e1, e2, e3⟩ := HC.out k ev hev
      have hfe := HF.out ev (List.mem_of_getElem? hev)
      have hdrop : l.drop k = ev :: l.drop (k + 1) := by rw [List.drop_eq_getElem_cons hlt]; congr 1; rw [List.getElem?_eq_getElem hlt] at hev; exact Option.some.inj hev
      have d0 := (hbw.cell (p := ⟨b, off + k * 4, none⟩) hb).trans e0
      have d1 := (hbw.cell (p := ⟨b, off + k * 4 + 1, none⟩) hb).trans e1
      have d2 := (hbw.cell (p := ⟨b, off + k * 4 + 2, none⟩) hb).trans e2
      have d3 := (hbw.cell (p := ⟨b, off + k * 4 + 3, none⟩) hb).trans e3
      rw [hdrop] at heq
      clear e0 e1 e2 e3 hev hdrop HW HB
      obtain ⟨K, ec, ea, evv⟩ := ev
      have HBW := Lib.hid hbw
      have HWA := Lib.hid hW
      have HO := Lib.hid hown
      have HG := Lib.hid hG
      have HEQ := Lib.hid heq
      have hszw : w.heap.size ≤ wr.heap.size := hbw.size
      clear hbw hW hown hG heq
      by_cases h8 : K = 8
      · subst h8
        obtain ⟨dv, hwr⟩ := HWA.out
        have E := Lib.hid (close_any w.heap.size r' mb' bb' m k W (wr.alloc (.cells #[.int .i64 8, .int .i64 ec, .int .i64 ea, .int .u64 evv] 26)) HG.out (by omega) ⟨dv, hwr.alloc _⟩)
        clear hwr
        go_wp2_with fail
        refine E.out.mono ?_
        rintro e w1 ⟨v, rfl, hrow, hlen, hk1⟩
        have hO1 : w1.ownsRow w.heap.size 3 1 o out.length (out.map (Value.int .i64)) := row_kept HO.out (fun j hj => by
              obtain ⟨cs, hcs⟩ := row_obj HO.out hj
              exact ((((Kp.refl (TW w.heap.size mb' bb') wr).alloc (.cells #[.int .i64 8, .int .i64 ec, .int .i64 ea, .int .u64 evv] 26)).trans hk1).blk _ _ hcs (by simp [TW])).trans hcs.symm)
        have HO1 := Lib.hid hO1
        have HR1 := Lib.hid hrow
        have HB1 := Lib.hid (HBW.out.trans ((((Kp.refl (TW w.heap.size mb' bb') wr).alloc (.cells #[.int .i64 8, .int .i64 ec, .int .i64 ea, .int .u64 evv] 26)).trans hk1).below hszw (fun j o _ ht => ht.1)))
        have hszw1 : w.heap.size ≤ w1.heap.size := HB1.out.size
        clear hO1 hrow hk1 E d0 d1 d2 d3
        go_wp2_with (first
          | (at_builtin; refine wpList_append_row rfl (.tmp 22) (.tmp 24) 27 rfl w.heap.size 3 i0 (.int .i64 0) 1 8 Try.underlying27 hi hz0 hz1 hz2 rfl (by decide) o out.length (out.map (Value.int .i64)) rfl HO1.out v _ W.close.length (W.close.map (Value.int .i64)) rfl HR1.out (by simp [Value.oneCell']) (by unfold maxLen; omega) (by omega) hszw1 ?_; intro v4 w4 hown4 hgrow4; have HO4 := Lib.hid hown4; have HB4 := Lib.hid (HB1.out.grown hgrow4 hszw1 (fun j hj => row_base HO1.out hj)); have hszw4 : w.heap.size ≤ w4.heap.size := HB4.out.size; clear hown4 hgrow4)
          | (at_builtin; refine wpList_append_own _ rfl (.tmp 25) (.tmp 26) 27 rfl w.heap.size 3 i0 (.int .i64 0) 1 8 Try.underlying27 hi hz0 hz1 hz2 rfl (by decide) v4 (out.length + W.close.length) (out.map (Value.int .i64) ++ W.close.map (Value.int .i64)) rfl (HO4.out.alloc _) ⟨w4.heap.size, 0, none⟩ 1 1 [.int .i64 (-1)] rfl rfl (World.news_of_block (heap_new w4 (.cells #[.int .i64 (-1)] 3))) (by simp [Value.oneCell']) (by unfold maxLen; omega) (by omega) (by simp; omega) ?_; intro v5 w5 hown5 hgrow5 _; have HO5 := Lib.hid hown5; have HB5 := Lib.hid ((HB4.out.alloc hszw4 _).grown hgrow5 (by simp; omega) (fun j hj => row_base HO4.out hj)); have hszw5 : w.heap.size ≤ w5.heap.size := HB5.out.size; clear hown5 hgrow5))
        refine (begin_any w.heap.size w5 hszw5).mono ?_
        rintro e w6 ⟨⟨r6, mb6, bb6, rfl, hr6, hmb6, hbb6, hW6⟩, hb6⟩
        have HW6 := Lib.hid hW6
        have HB6 := Lib.hid (HB5.out.trans (hb6.mono hszw5))
        have HO6 := Lib.hid (row_kept HO5.out (fun j hj => hb6.block j (by obtain ⟨cs, hcs⟩ := row_obj HO5.out hj; exact (Array.getElem?_eq_some_iff.1 hcs).1)))
        clear hW6 hb6
        go_wp2_with fail
        go_roundw
        case rel =>
          refine ⟨_, k + 1, 0, r6, mb6, bb6, Wk.zero, out ++ W.close ++ [-1], rfl, by omega, by go_num, rfl, by omega, by simp; omega, ?_, OrdL.Good.zero.mono (by omega), HW6.out, ?_, HB6.out⟩
          · rw [HEQ.out, OrdL.ofGo, if_neg (by simp)]; congr 1
          · have := HO6.out
            simpa [List.length_append, List.map_append, Nat.add_assoc] using this
        case measure => simp [intOf]; omega
      · have b8 : (K != 8) = true := by rw [bne_iff_ne]; exact h8
        obtain ⟨dv, hwr⟩ := HWA.out
        have E := Lib.hid (event_any w.heap.size r' mb' bb' m k ⟨K, ec, ea, evv⟩ W (wr.alloc (.cells #[.int .i64 K, .int .i64 ec, .int .i64 ea, .int .u64 evv] 26)) hfe (by omega) (by omega) (by omega) HG.out ⟨dv, hwr.alloc _⟩)
        clear hwr
        go_wp2_with fail
        refine E.out.mono ?_
        rintro e w1 ⟨rfl, hW1, hk1⟩
        have HW1 := Lib.hid hW1
        have HK1 := Lib.hid (((Kp.refl (TW w.heap.size mb' bb') wr).alloc (.cells #[.int .i64 K, .int .i64 ec, .int .i64 ea, .int .u64 evv] 26)).trans hk1)
        clear hW1 hk1 E d0 d1 d2 d3
        go_wp2_with fail
        go_roundw
        case rel =>
          refine ⟨_, k + 1, m + 1, r', mb', bb', _, out, rfl, by omega, by go_num, rfl, by omega, by omega, ?_, HG.out.event _ hfe, HW1.out, ?_, ?_⟩
          · rw [HEQ.out, OrdL.ofGo, if_pos h8]; congr 1
          · exact row_kept HO.out (fun j hj => by
              obtain ⟨cs, hcs⟩ := row_obj HO.out hj
              exact (HK1.out.blk _ _ hcs (by simp [TW])).trans hcs.symm)
          · exact HBW.out.trans (HK1.out.below hszw (fun j o _ ht => ht.1))
        case measure => simp [intOf]; omega
    · obtain rfl : k = l.length := by omega
      have HBW := Lib.hid hbw
      have HO := Lib.hid hown
      have hszw : w.heap.size ≤ wr.heap.size := hbw.size
      have E := Lib.hid (close_any w.heap.size r' mb' bb' m l.length W wr hG (by omega) hW)
      have hfin : OrdL.of l = out ++ W.close := by rw [heq, List.drop_length, OrdL.ofGo]
      have HFIN := Lib.hid hfin
      clear hbw hW hown hG heq hfin
      go_wp2_with fail
      refine E.out.mono ?_
      rintro e w1 ⟨v, rfl, hrow, hlen, hk1⟩
      have HO1 := Lib.hid (row_kept HO.out (fun j hj => by
              obtain ⟨cs, hcs⟩ := row_obj HO.out hj
              exact (hk1.blk _ _ hcs (by simp [TW])).trans hcs.symm))
      have HR1 := Lib.hid hrow
      have HB1 := Lib.hid (HBW.out.trans (hk1.below hszw (fun j o _ ht => ht.1)))
      have hszw1 : w.heap.size ≤ w1.heap.size := HB1.out.size
      clear hrow hk1 E
      go_wp2_with (at_builtin; refine wpList_append_row rfl (.tmp 30) (.tmp 32) 27 rfl w.heap.size 3 i0 (.int .i64 0) 1 8 Try.underlying27 hi hz0 hz1 hz2 rfl (by decide) o out.length (out.map (Value.int .i64)) rfl HO1.out v _ W.close.length (W.close.map (Value.int .i64)) rfl HR1.out (by simp [Value.oneCell']) (by unfold maxLen; omega) (by omega) hszw1 ?_; intro v4 w4 hown4 hgrow4; have HO4 := Lib.hid hown4; have HB4 := Lib.hid (HB1.out.grown hgrow4 hszw1 (fun j hj => row_base HO1.out hj)); clear hown4 hgrow4)
      go_ret
      refine ⟨v4, rfl, ?_, HB4.out⟩
      rw [HFIN.out, List.length_append, List.map_append]
      exact HO4.out
end Go.Proofs.Ytmplhchplehhlaa
