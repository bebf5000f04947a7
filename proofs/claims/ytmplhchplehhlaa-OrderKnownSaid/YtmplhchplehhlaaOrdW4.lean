/- Walks over chapter 24's methods: event, but for the event at which the threads begin; begin. -/
import Derived.Test.YtmplhchplehhlaaOrdW3
namespace Go.Proofs.Ytmplhchplehhlaa
open Go.RowKit
open OrdL (Ev Tr Wk)

theorem begin_any (B : Nat) (w : World) (hB : B ≤ w.heap.size) : Calls Try.prog 9 #[] w fun e w' => (∃ r mb bb, e = .returned (.pointer (some ⟨r, 0, none⟩)) ∧ w.heap.size ≤ r ∧ w.heap.size ≤ mb ∧ w.heap.size ≤ bb ∧ WAt B w' r mb bb 0 Wk.zero) ∧ Below w.heap.size w w' := by
  have hmm := @run_makeMap Try.prog
  go_enter Try.func9, Try.ntmps9
  go_wp2
  go_ret
  refine ⟨⟨_, _, _, rfl, ?_, ?_, ?_, .slice none 0 0, ⟨by have := heap_new ((w.alloc (.map #[] 0)).alloc (.map #[] 0)) (.cells #[.map (some w.heap.size), .slice none 0 0, .map (some (w.heap.size + 1))] 43); rwa [World.size_alloc, World.size_alloc] at this, (((IMap.made w _ _).alloc _).alloc _), ?_, World.ownsRow_nil _ _ _ _, ?_, ?_, Nat.le_refl _, Nat.le_refl _⟩⟩, (by repeat (first | exact bl0 _ | refine bl_drew ?_ | refine bl_alloc ?_ _ | refine bl_set ?_ (by first | exact Nat.le_refl _ | (simp <;> omega)) _))⟩
  · omega
  · exact Nat.le_refl _
  · exact Nat.le_succ _
  · have := (IMap.made (w.alloc (.map #[] 0)) Try.prog 3).alloc (.cells #[.map (some w.heap.size), .slice none 0 0, .map (some (w.heap.size + 1))] 43)
    simpa [OrdL.Wk.zero] using this
  · omega
  · omega

theorem box_of (w : World) (r : Nat) (B : Obj) : ((w.alloc (.cells #[.pointer (some ⟨r, 0, none⟩)] 35)).alloc B).heap[w.heap.size]? = some (.cells #[.pointer (some ⟨r, 0, none⟩)] 35 (0, 0)) :=
  (Below.heap_alloc _ _ _ (by simp)).trans (heap_new _ _)
theorem box2_of (w : World) (B : Obj) (cs : Array Value) (t : TypeId) : ((w.alloc B).alloc (.cells cs t)).heap[w.heap.size + 1]? = some (.cells cs t (0, 0)) := by
  have := heap_new (w.alloc B) (.cells cs t)
  rwa [World.size_alloc] at this

theorem WRep.keep2 {W1 w2 : World} {B r mb bb n : Nat} {dv : Value} {W : Wk} {Ob : Obj} (h : WRep B W1 r mb bb n dv W) (hgr : (W1.alloc Ob).drew.grownBy w2 dv.ownBlock) {k : Nat} {cs : Array Value} {t : TypeId} {f : Nat × Nat}
    (hk : W1.heap[k]? = some (.cells cs t f)) (hne : t ≠ 46) : w2.heap[k]? = some (.cells cs t f) := by
  have hl := (Array.getElem?_eq_some_iff.1 hk).1
  exact (hgr.block k (by simp; omega) (fun e => row_ne h.deeds hk hne e.symm)).trans ((Below.heap_alloc _ _ _ hl).trans hk)

/-- behind 'w.backs[e.At] = at + 1' -/
theorem WRep.putBack {w w' : World} {B r mb bb n : Nat} {dv : Value} {W : Wk} {k x : Int} (h : WRep B w r mb bb n dv W) {m : Nat} (hm : IMap w' Try.prog 3 bb m (putV k (.int .i64 x) (W.backs.map encB))) (hg : w.grownBy w' (some bb)) :
    WRep B w' r mb bb (n + 1) dv { W with backs := OrdL.putK k x W.backs } ∧ Kp (TW B mb bb) w w' := by
  obtain ⟨es, c, h1⟩ := h.tries.isMap
  obtain ⟨es', c', h2⟩ := h.backs.isMap
  have keep : ∀ k o, w.heap[k]? = some o → k ≠ bb → w'.heap[k]? = some o := fun k o hk hne =>
    (hg.block k (Array.getElem?_eq_some_iff.1 hk).1 (by simpa using hne)).trans hk
  refine ⟨⟨keep r _ h.obj (fun e => ?_), h.tries.kept_heap ((keep mb _ h1 h.ne).trans h1.symm), by rw [putV_B] at hm; simpa using hm.tight, row_kept h.deeds (fun k hk => ?_), h.ne, h.base, Nat.le_succ_of_le h.len, by have := h.lenB; have := putK_len k x W.backs; have := delK_len k W.backs; dsimp only; omega⟩, (Kp.refl (TW B mb bb) w).grown hg (fun k o hk ho => ?_)⟩
  · rw [← e, h.obj] at h2; cases h2
  · obtain ⟨cs, hcs⟩ := row_obj h.deeds hk
    exact (keep k _ hcs (fun e => by rw [e, h2] at hcs; cases hcs)).trans hcs.symm
  · cases hk; rw [h2] at ho; cases ho; exact ⟨h.base.2.2, Or.inr rfl⟩

theorem event_tried (K : Int) (hK : K = 1 ∨ K = 2 ∨ K = 3) (B r mb bb n : Nat) (i ec ea evv : Int) (W : Wk) (w : World) (hwf : (Lit.int .i64 ec).wf = true) (hn : n < 1000000) (h : WAt B w r mb bb n W) :
    Calls Try.prog 10 #[.pointer (some ⟨r, 0, none⟩), .int .i64 i, .agg #[.int .i64 K, .int .i64 ec, .int .i64 ea, .int .u64 evv]] w fun e w' => e = .returned (.tuple #[]) ∧ WAt B w' r mb bb (n + 1) (W.event i ⟨K, ec, ea, evv⟩) ∧ Kp (TW B mb bb) w w' := by
  have e1 : W.event i ⟨K, ec, ea, evv⟩ = W.tried i ⟨K, ec, ea, evv⟩ := by unfold OrdL.Wk.event; rw [if_pos hK]
  rw [e1]
  obtain ⟨dv, h⟩ := h
  have hA : WAt B ((w.alloc (.cells #[.pointer (some ⟨r, 0, none⟩)] 35)).alloc (.cells #[.int .i64 K, .int .i64 ec, .int .i64 ea, .int .u64 evv] 26)) r mb bb n W := ⟨dv, (h.alloc _).alloc _⟩
  have T := Lib.hid (tried_any B r mb bb n i ⟨K, ec, ea, evv⟩ W _ hwf hn hA)
  have k0 : Kp (TW B mb bb) w ((w.alloc (.cells #[.pointer (some ⟨r, 0, none⟩)] 35)).alloc (.cells #[.int .i64 K, .int .i64 ec, .int .i64 ea, .int .u64 evv] 26)) := ((Kp.refl _ _).alloc _).alloc _
  clear h hA e1
  rcases hK with rfl | rfl | rfl
  all_goals
    go_enter Try.func10, Try.ntmps10
    go_wp2_with fail
    refine T.out.mono ?_
    rintro e w1 ⟨rfl, hW, hk⟩
    have HW := Lib.hid hW
    have HK := Lib.hid (k0.trans hk)
    clear hW hk T
    go_wp2_with fail
    go_end0
    exact ⟨rfl, HW.out, HK.out⟩

theorem event_end (K : Int) (hK : K = 6 ∨ K = 10) (B r mb bb n : Nat) (i ec ea evv : Int) (W : Wk) (w : World) (hwf : (Lit.int .i64 ec).wf = true) (hn : n < 1000000) (h : WAt B w r mb bb n W) :
    Calls Try.prog 10 #[.pointer (some ⟨r, 0, none⟩), .int .i64 i, .agg #[.int .i64 K, .int .i64 ec, .int .i64 ea, .int .u64 evv]] w fun e w' => e = .returned (.tuple #[]) ∧ WAt B w' r mb bb (n + 1) (W.event i ⟨K, ec, ea, evv⟩) ∧ Kp (TW B mb bb) w w' := by
  have e1 : W.event i ⟨K, ec, ea, evv⟩ = W.end_ ec := by unfold OrdL.Wk.event; rw [if_neg (by dsimp only; omega), if_neg (by dsimp only; omega), if_pos hK]
  rw [e1]
  obtain ⟨dv, h⟩ := h
  have hA : WAt B ((w.alloc (.cells #[.pointer (some ⟨r, 0, none⟩)] 35)).alloc (.cells #[.int .i64 K, .int .i64 ec, .int .i64 ea, .int .u64 evv] 26)) r mb bb n W := ⟨dv, (h.alloc _).alloc _⟩
  have T := Lib.hid (end_any B r mb bb n ec W _ hwf hn hA)
  have k0 : Kp (TW B mb bb) w ((w.alloc (.cells #[.pointer (some ⟨r, 0, none⟩)] 35)).alloc (.cells #[.int .i64 K, .int .i64 ec, .int .i64 ea, .int .u64 evv] 26)) := ((Kp.refl _ _).alloc _).alloc _
  clear h hA e1
  rcases hK with rfl | rfl
  all_goals
    go_enter Try.func10, Try.ntmps10
    go_wp2_with fail
    refine T.out.mono ?_
    rintro e w1 ⟨rfl, hW, hk⟩
    have HW := Lib.hid hW
    have HK := Lib.hid (k0.trans hk)
    clear hW hk T
    go_wp2_with fail
    go_end0
    obtain ⟨dv', hW⟩ := HW.out
    exact ⟨rfl, ⟨dv', hW.mono (Nat.le_succ n)⟩, HK.out⟩

theorem event_none (K : Int) (hK : ¬ (K = 1 ∨ K = 2 ∨ K = 3 ∨ K = 4 ∨ K = 6 ∨ K = 10 ∨ K = 9 ∨ K = 7)) (B r mb bb n : Nat) (i ec ea evv : Int) (W : Wk) (w : World) (h : WAt B w r mb bb n W) :
    Calls Try.prog 10 #[.pointer (some ⟨r, 0, none⟩), .int .i64 i, .agg #[.int .i64 K, .int .i64 ec, .int .i64 ea, .int .u64 evv]] w fun e w' => e = .returned (.tuple #[]) ∧ WAt B w' r mb bb (n + 1) (W.event i ⟨K, ec, ea, evv⟩) ∧ Kp (TW B mb bb) w w' := by
  have e1 : W.event i ⟨K, ec, ea, evv⟩ = W := by unfold OrdL.Wk.event; rw [if_neg (by dsimp only; omega), if_neg (by dsimp only; omega), if_neg (by dsimp only; omega), if_neg (by dsimp only; omega), if_neg (by dsimp only; omega)]
  rw [e1]
  have b1 : (K == 1) = false := beq_eq_false_iff_ne.2 (by omega)
  have b2 : (K == 2) = false := beq_eq_false_iff_ne.2 (by omega)
  have b3 : (K == 3) = false := beq_eq_false_iff_ne.2 (by omega)
  have b4 : (K == 4) = false := beq_eq_false_iff_ne.2 (by omega)
  have b6 : (K == 6) = false := beq_eq_false_iff_ne.2 (by omega)
  have b10 : (K == 10) = false := beq_eq_false_iff_ne.2 (by omega)
  have b9 : (K == 9) = false := beq_eq_false_iff_ne.2 (by omega)
  have b7 : (K == 7) = false := beq_eq_false_iff_ne.2 (by omega)
  have H := Lib.hid h
  clear h hK e1
  go_enter Try.func10, Try.ntmps10
  go_wp2_with fail
  go_end0
  obtain ⟨dv', hW⟩ := H.out
  exact ⟨rfl, ⟨dv', ((hW.alloc _).alloc _).mono (Nat.le_succ n)⟩, ((Kp.refl _ _).alloc _).alloc _⟩

set_option maxRecDepth 100000 in
set_option maxHeartbeats 1000000 in
theorem event_back (B r mb bb n : Nat) (i ec ea evv : Int) (W : Wk) (w : World) (hwf : (Lit.int .i64 ea).wf = true) (hi : 0 ≤ i) (hi2 : i < 1000000) (hn : n < 1000000) (h : WAt B w r mb bb n W) :
    Calls Try.prog 10 #[.pointer (some ⟨r, 0, none⟩), .int .i64 i, .agg #[.int .i64 7, .int .i64 ec, .int .i64 ea, .int .u64 evv]] w fun e w' => e = .returned (.tuple #[]) ∧ WAt B w' r mb bb (n + 1) (W.event i ⟨7, ec, ea, evv⟩) ∧ Kp (TW B mb bb) w w' := by
  have e1 : W.event i ⟨7, ec, ea, evv⟩ = { W with backs := OrdL.putK ea (i + 1) W.backs } := by simp [OrdL.Wk.event]
  rw [e1]
  obtain ⟨dv, h⟩ := h
  have hA := (h.alloc (.cells #[.pointer (some ⟨r, 0, none⟩)] 35)).alloc (.cells #[.int .i64 7, .int .i64 ec, .int .i64 ea, .int .u64 evv] 26)
  have k0 : Kp (TW B mb bb) w ((w.alloc (.cells #[.pointer (some ⟨r, 0, none⟩)] 35)).alloc (.cells #[.int .i64 7, .int .i64 ec, .int .i64 ea, .int .u64 evv] 26)) := ((Kp.refl _ _).alloc _).alloc _
  have n1 := box_of w r (.cells #[.int .i64 7, .int .i64 ec, .int .i64 ea, .int .u64 evv] 26)
  have n2 := box2_of w (.cells #[.pointer (some ⟨r, 0, none⟩)] 35) #[.int .i64 7, .int .i64 ec, .int .i64 ea, .int .u64 evv] 26
  clear h e1
  go_enter Try.func10, Try.ntmps10
  go_wp2_with fail
  generalize (w.alloc (.cells #[.pointer (some ⟨r, 0, none⟩)] 35)).alloc (.cells #[.int .i64 7, .int .i64 ec, .int .i64 ea, .int .u64 evv] 26) = W2 at *
  have c2 : W2.cell? ⟨r, 2, none⟩ = some (.map (some bb)) := cell_obj hA.obj 2
  have c3 : W2.cell? ⟨w.heap.size, 0, none⟩ = some (.pointer (some ⟨r, 0, none⟩)) := cell_obj n1 0
  have c4 : W2.cell? ⟨w.heap.size + 1, 2, none⟩ = some (.int .i64 ea) := cell_obj n2 2
  have HA := Lib.hid hA
  clear hA n1 n2
  go_still_tail 8, (by kernel_rfl)
  go_wp2_with (at_mapUpdate; refine wpList_iput _ rfl (.tmp 56) (.tmp 58) (.tmp 60) 40 rfl 3 3 Try.underlying3 Try.underlying40 bb _ _ rfl HA.out.backs.drew (by have := HA.out.lenB; unfold maxLen; omega) ea hwf (.int .i64 (i + 1)) rfl (by simp [Act.eval]; rw [IntKind.wrap_i64]; omega) ?_; intro w4 hm4 hg4)
  go_end0
  obtain ⟨HB, HK⟩ := HA.out.drew.putBack hm4 hg4
  exact ⟨rfl, ⟨dv, HB⟩, k0.drew.trans HK⟩

end Go.Proofs.Ytmplhchplehhlaa
