/- Walks over chapter 24's methods: event, at an out. -/
import Derived.Test.YtmplhchplehhlaaOrdW4
namespace Go.Proofs.Ytmplhchplehhlaa
open Go.RowKit
open OrdL (Ev Tr Wk)

set_option maxRecDepth 100000 in
set_option maxHeartbeats 1000000 in
theorem event_out (B r mb bb n : Nat) (i ec ea evv : Int) (W : Wk) (w : World) (hwf : (Lit.int .i64 ec).wf = true) (hn : n < 1000000) (h : WAt B w r mb bb n W) :
    Calls Try.prog 10 #[.pointer (some ⟨r, 0, none⟩), .int .i64 i, .agg #[.int .i64 4, .int .i64 ec, .int .i64 ea, .int .u64 evv]] w fun e w' => e = .returned (.tuple #[]) ∧ WAt B w' r mb bb (n + 1) (W.event i ⟨4, ec, ea, evv⟩) ∧ Kp (TW B mb bb) w w' := by
  have e1 : W.event i ⟨4, ec, ea, evv⟩ = { W.end_ ec with deeds := (W.end_ ec).deeds ++ [(i, ec)] } := by simp [OrdL.Wk.event]
  rw [e1]
  obtain ⟨dv, h⟩ := h
  have hA : WAt B ((w.alloc (.cells #[.pointer (some ⟨r, 0, none⟩)] 35)).alloc (.cells #[.int .i64 4, .int .i64 ec, .int .i64 ea, .int .u64 evv] 26)) r mb bb n W := ⟨dv, (h.alloc _).alloc _⟩
  have T0 := end_any B r mb bb n ec W _ hwf hn hA
  generalize W.end_ ec = We at T0 ⊢
  have T := Lib.hid T0
  clear T0
  have n1 := Lib.hid (box_of w r (.cells #[.int .i64 4, .int .i64 ec, .int .i64 ea, .int .u64 evv] 26))
  have n2 := Lib.hid (box2_of w (.cells #[.pointer (some ⟨r, 0, none⟩)] 35) #[.int .i64 4, .int .i64 ec, .int .i64 ea, .int .u64 evv] 26)
  have k0 := Lib.hid (((Kp.refl (TW B mb bb) w).alloc (.cells #[.pointer (some ⟨r, 0, none⟩)] 35)).alloc (.cells #[.int .i64 4, .int .i64 ec, .int .i64 ea, .int .u64 evv] 26))
  obtain ⟨i0, hi, hz0, hz1, hz2⟩ := info_parts infoD
  clear h hA e1
  go_enter Try.func10, Try.ntmps10
  go_wp2_with fail
  refine T.out.mono ?_
  rintro e W1 ⟨rfl, ⟨dv1, hA⟩, hk⟩
  have m1 := hk.blk _ _ n1.out (by simp [TW])
  have m2 := hk.blk _ _ n2.out (by simp [TW])
  have K1 := Lib.hid (k0.out.trans hk)
  have c1 : W1.cell? ⟨r, 1, none⟩ = some dv1 := cell_obj hA.obj 1
  have f1 : W1.frozen? ⟨r, 1, none⟩ = false := frozen_obj hA.obj 1
  have c3 : W1.cell? ⟨w.heap.size, 0, none⟩ = some (.pointer (some ⟨r, 0, none⟩)) := cell_obj m1 0
  have c4 : W1.cell? ⟨w.heap.size + 1, 1, none⟩ = some (.int .i64 ec) := cell_obj m2 1
  have c1a : (W1.alloc (.cells #[.int .i64 i, .int .i64 ec] 46)).cell? ⟨r, 1, none⟩ = some dv1 := (World.cell?_alloc_past _ _ _ (Array.getElem?_eq_some_iff.1 hA.obj).1).trans c1
  have c3a : (W1.alloc (.cells #[.int .i64 i, .int .i64 ec] 46)).cell? ⟨w.heap.size, 0, none⟩ = some (.pointer (some ⟨r, 0, none⟩)) := (World.cell?_alloc_past _ _ _ (Array.getElem?_eq_some_iff.1 m1).1).trans c3
  have c4a : (W1.alloc (.cells #[.int .i64 i, .int .i64 ec] 46)).cell? ⟨w.heap.size + 1, 1, none⟩ = some (.int .i64 ec) := (World.cell?_alloc_past _ _ _ (Array.getElem?_eq_some_iff.1 m2).1).trans c4
  have hO : ((W1.alloc (.cells #[.int .i64 i, .int .i64 ec] 46)).drew).ownsRow B 46 2 dv1 We.deeds.length (deedsV We.deeds) := hA.deeds.alloc _
  have hN : ∀ j u, (deedV (i, ec))[j]? = some u → ((W1.alloc (.cells #[.int .i64 i, .int .i64 ec] 46)).drew).cell? ((⟨W1.heap.size, 0, none⟩ : Addr).add j) = some u := World.news_of_block (heap_new W1 _)
  have hL := Lib.hid hA.len
  have hR := Lib.hid (row_ne hA.deeds hA.obj (by decide))
  have hM := Lib.hid hA
  have hm1 := Lib.hid m1
  clear hA T n1 n2 hk m1 m2 k0
  go_wp2_with fail
  go_region_law (refine step_append_lies _ rfl (.tmp 27) (.tmp 32) 41 rfl B 46 i0 (.agg #[.int .i64 0, .int .i64 0]) 2 16 Try.underlying41 hi hz0 hz1 hz2 rfl (by decide) dv1 We.deeds.length (deedsV We.deeds) (by simp [Act.eval]) hO ⟨W1.heap.size, 0, none⟩ 1 1 (deedV (i, ec)) (by simp [Act.eval]) rfl hN (by simp [deedV, Value.oneCell']) (by decide) (by have := hL.out; unfold maxLen; omega) (by have := hL.out; omega) (by have := hM.out.base.1; have := (Array.getElem?_eq_some_iff.1 hM.out.obj).1; simp; omega) (W1.heap.size + 1) (by simp) ?_; intro g cap w2 hown2 hgrow2 hat2 hlt2; have c2 := hM.out.keep2 hgrow2 hM.out.obj (by decide); have f2 : w2.frozen? ⟨r, 1, none⟩ = false := frozen_obj c2 1; have c2' : w2.cell? ⟨r, 1, none⟩ = some dv1 := cell_obj c2 1; have c2'' : w2.cell? ⟨w.heap.size, 0, none⟩ = some (.pointer (some ⟨r, 0, none⟩)) := cell_obj (hM.out.keep2 hgrow2 hm1.out (by decide)) 0; have C2 := Lib.hid c2; clear c2)
  all_goals
    obtain ⟨HA, HK⟩ := hM.out.appended (p := (i, ec)) hown2 hgrow2 hat2
    have HM := Lib.hid HA
    have HKK := Lib.hid (K1.out.trans HK)
    clear hown2 hgrow2 hat2 c2' c2'' f2 hO hN c1 f1 c1a c3 c3a c4 c4a HA HK
    go_wp2_with fail
    go_end0
    exact ⟨rfl, ⟨_, HM.out⟩, HKK.out⟩
end Go.Proofs.Ytmplhchplehhlaa
