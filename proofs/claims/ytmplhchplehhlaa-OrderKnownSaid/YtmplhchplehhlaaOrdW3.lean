/- Walks over chapter 24's methods: tried. -/
import Derived.Test.YtmplhchplehhlaaOrdW2
import Derived.StillTailTactics
namespace Go.Proofs.Ytmplhchplehhlaa
open Go.RowKit
open OrdL (Ev Tr Wk)

/-- behind 'w.tries[e.Core] = try{..}' -/
theorem WRep.putTry {w w' : World} {B r mb bb n : Nat} {dv : Value} {W : Wk} {core : Int} {t : Tr} (h : WRep B w r mb bb n dv W) {m : Nat} (hm : IMap w' Try.prog 3 mb m (putV core (.agg (trV t).toArray) (W.tries.map encT))) (hg : w.grownBy w' (some mb)) :
    WRep B w' r mb bb (n + 1) dv { W with tries := OrdL.putK core t W.tries } ∧ Kp (TW B mb bb) w w' := by
  obtain ⟨es, c, h1⟩ := h.tries.isMap
  obtain ⟨es', c', h2⟩ := h.backs.isMap
  have keep : ∀ k o, w.heap[k]? = some o → k ≠ mb → w'.heap[k]? = some o := fun k o hk hne =>
    (hg.block k (Array.getElem?_eq_some_iff.1 hk).1 (by simpa using hne)).trans hk
  refine ⟨⟨keep r _ h.obj (fun e => ?_), by rw [putV_T] at hm; simpa using hm.tight, h.backs.kept_heap ((keep bb _ h2 (fun e => h.ne e.symm)).trans h2.symm), row_kept h.deeds (fun k hk => ?_), h.ne, h.base, by have := h.len; have := putK_len core t W.tries; have := delK_len core W.tries; dsimp only; omega, Nat.le_succ_of_le h.lenB⟩, (Kp.refl (TW B mb bb) w).grown hg (fun k o hk ho => ?_)⟩
  · rw [← e, h.obj] at h1; cases h1
  · obtain ⟨cs, hcs⟩ := row_obj h.deeds hk
    exact (keep k _ hcs (fun e => by rw [e, h1] at hcs; cases hcs)).trans hcs.symm
  · cases hk; rw [h1] at ho; cases ho; exact ⟨h.base.2.1, Or.inl rfl⟩

theorem tried_any (B r mb bb n : Nat) (at_ : Int) (ev : Ev) (W : Wk) (w : World) (hwf : (Lit.int .i64 ev.core).wf = true) (hn : n < 1000000) (h : WAt B w r mb bb n W) :
    Calls Try.prog 12 #[.pointer (some ⟨r, 0, none⟩), .int .i64 at_, .agg (evV ev).toArray] w fun e w' => e = .returned (.tuple #[]) ∧ WAt B w' r mb bb (n + 1) (W.tried at_ ev) ∧ Kp (TW B mb bb) w w' := by
  obtain ⟨ek, ec, ea, ev⟩ := ev
  obtain ⟨dv, h⟩ := h
  have hA : WAt B (w.alloc (.cells #[.int .i64 ek, .int .i64 ec, .int .i64 ea, .int .u64 ev] 26)) r mb bb n W := ⟨dv, h.alloc _⟩
  have hnew : (w.alloc (.cells #[.int .i64 ek, .int .i64 ec, .int .i64 ea, .int .u64 ev] 26)).heap[w.heap.size]? = some (.cells #[.int .i64 ek, .int .i64 ec, .int .i64 ea, .int .u64 ev] 26 (0, 0)) := heap_new _ _
  have G := goes_any B r mb bb n ⟨ek, ec, ea, ev⟩ W _ hwf hA
  cases hg : W.goes ⟨ek, ec, ea, ev⟩ with
  | true =>
    have e1 : W.tried at_ ⟨ek, ec, ea, ev⟩ = { W with tries := OrdL.putK ec ⟨⟨ek, ec, ea, ev⟩, at_, ek == 2⟩ W.tries } := by simp [OrdL.Wk.tried, hg]; rfl
    rw [e1]
    rw [hg] at G
    have G' := Lib.hid G
    clear hg e1 G
    simp only [evV]
    go_enter Try.func12, Try.ntmps12
    go_wp2_with fail
    refine G'.out.mono ?_
    rintro e w1 ⟨rfl, hb1⟩
    have h1 := (h.alloc _).below hb1
    have n1 : w1.heap[w.heap.size]? = _ := (hb1.block _ (by simp)).trans hnew
    have c0 : w1.cell? ⟨r, 0, none⟩ = some (.map (some mb)) := cell_obj h1.obj 0
    have d0 : w1.cell? ⟨w.heap.size, 0, none⟩ = some (.int .i64 ek) := cell_obj n1 0
    have d1 : w1.cell? ⟨w.heap.size, 1, none⟩ = some (.int .i64 ec) := cell_obj n1 1
    have d2 : w1.cell? ⟨w.heap.size, 2, none⟩ = some (.int .i64 ea) := cell_obj n1 2
    have d3 : w1.cell? ⟨w.heap.size, 3, none⟩ = some (.int .u64 ev) := cell_obj n1 3
    have H1 := Lib.hid h1
    have K1 := Lib.hid (((Kp.refl (TW B mb bb) w).alloc _).then_below hb1)
    clear hb1 n1 h1 G' hA hnew h
    go_wp2_with fail
    go_still_tail 12, (by kernel_rfl)
    go_wp2_with (at_mapUpdate; refine wpList_iput _ rfl (.tmp 17) (.tmp 19) (.tmp 25) 39 rfl 3 52 Try.underlying3 Try.underlying39 mb _ _ rfl H1.out.tries.drew (by have := H1.out.len; unfold maxLen; omega) ec hwf (.agg (trV ⟨⟨ek, ec, ea, ev⟩, at_, ek == 2⟩).toArray) rfl (by simp [Act.eval, trV, evV]) ?_; intro w4 hm4 hg4)
    go_end0
    obtain ⟨HB, HK⟩ := H1.out.drew.putTry hm4 hg4
    exact ⟨rfl, ⟨dv, HB⟩, K1.out.drew.trans HK⟩
  | false =>
    have e1 : W.tried at_ ⟨ek, ec, ea, ev⟩ = { W.end_ ec with tries := OrdL.putK ec ⟨⟨ek, ec, ea, ev⟩, at_, ek == 2⟩ (W.end_ ec).tries } := by simp [OrdL.Wk.tried, hg]; rfl
    rw [e1]
    rw [hg] at G
    have G' := Lib.hid G
    clear hg e1 G
    simp only [evV]
    go_enter Try.func12, Try.ntmps12
    go_wp2_with fail
    refine G'.out.mono ?_
    rintro e w1 ⟨rfl, hb1⟩
    have h1 := (h.alloc _).below hb1
    have n1 : w1.heap[w.heap.size]? = _ := (hb1.block _ (by simp)).trans hnew
    have d1 : w1.cell? ⟨w.heap.size, 1, none⟩ = some (.int .i64 ec) := cell_obj n1 1
    have E := Lib.hid (end_any B r mb bb n ec W w1 hwf hn ⟨dv, h1⟩)
    have N1 := Lib.hid n1
    have K1 := Lib.hid (((Kp.refl (TW B mb bb) w).alloc (.cells #[.int .i64 ek, .int .i64 ec, .int .i64 ea, .int .u64 ev] 26)).then_below hb1)
    clear hb1 n1 h1 G' hA hnew h
    go_wp2_with fail
    refine E.out.mono ?_
    rintro e w2 ⟨rfl, ⟨dv2, h2⟩, k2⟩
    have n2 : w2.heap[w.heap.size]? = _ := k2.blk _ _ N1.out (by simp [TW])
    have c0 : w2.cell? ⟨r, 0, none⟩ = some (.map (some mb)) := cell_obj h2.obj 0
    have e0 : w2.cell? ⟨w.heap.size, 0, none⟩ = some (.int .i64 ek) := cell_obj n2 0
    have e1 : w2.cell? ⟨w.heap.size, 1, none⟩ = some (.int .i64 ec) := cell_obj n2 1
    have e2 : w2.cell? ⟨w.heap.size, 2, none⟩ = some (.int .i64 ea) := cell_obj n2 2
    have e3 : w2.cell? ⟨w.heap.size, 3, none⟩ = some (.int .u64 ev) := cell_obj n2 3
    have H2 := Lib.hid h2
    have K2 := Lib.hid (K1.out.trans k2)
    clear k2 n2 h2 K1 N1 E d1
    go_wp2_with fail
    go_still_tail 12, (by kernel_rfl)
    go_wp2_with (at_mapUpdate; refine wpList_iput _ rfl (.tmp 17) (.tmp 19) (.tmp 25) 39 rfl 3 52 Try.underlying3 Try.underlying39 mb _ _ rfl H2.out.tries.drew (by have := H2.out.len; unfold maxLen; omega) ec hwf (.agg (trV ⟨⟨ek, ec, ea, ev⟩, at_, ek == 2⟩).toArray) rfl (by simp [Act.eval, trV, evV]) ?_; intro w4 hm4 hg4)
    go_end0
    obtain ⟨HB, HK⟩ := H2.out.drew.putTry hm4 hg4
    exact ⟨rfl, ⟨dv2, HB⟩, K2.out.drew.trans HK⟩
end Go.Proofs.Ytmplhchplehhlaa
