/- Walks over chapter 24's methods: event, where the threads begin. -/
import Derived.Test.YtmplhchplehhlaaOrdW6
namespace Go.Proofs.Ytmplhchplehhlaa
open Go.RowKit Go.Maps Go.Sort Go.Shelf
open OrdL (Ev Tr Wk)
attribute [local go_sem] Oper.semAt_some

/-- .. stays while a block that is no cells, and none of its maps, is turned -/
theorem WRep.others {X X' : World} {B r mb bb n : Nat} {d : Value} {W : Wk} {row : Option Nat} (h : WRep B X r mb bb n d W) (hg : X.grownBy X' row) (hr : ∀ k, row = some k → ∃ o : Obj, X.heap[k]? = some o ∧ o.isCells = false) (hm : row ≠ some mb) (hb : row ≠ some bb) : WRep B X' r mb bb n d W := by
  have keepC : ∀ (k : Nat) (cs : Array Value) (t : TypeId) (f : Nat × Nat), X.heap[k]? = some (.cells cs t f) → X'.heap[k]? = some (.cells cs t f) := fun k cs t f hk =>
    (hg.block k (Array.getElem?_eq_some_iff.1 hk).1 (fun e => by obtain ⟨o, ho, hn⟩ := hr k e.symm; rw [hk] at ho; cases ho; simp [Obj.isCells] at hn)).trans hk
  obtain ⟨es, c, h1⟩ := h.tries.isMap
  obtain ⟨es', c', h2⟩ := h.backs.isMap
  refine ⟨keepC _ _ _ _ h.obj, h.tries.kept_heap (hg.block _ h.tries.lt (fun e => hm e.symm)), h.backs.kept_heap (hg.block _ h.backs.lt (fun e => hb e.symm)), row_kept h.deeds (fun k hk => ?_), h.ne, h.base, h.len, h.lenB⟩
  obtain ⟨cs, hcs⟩ := row_obj h.deeds hk
  exact (keepC _ _ _ _ hcs).trans hcs.symm

theorem Kp.from_ {X X' : World} {B mb bb B' : Nat} (h : Kp (TW B mb bb) X X') (h1 : mb < B') (h2 : bb < B') : KeepsFrom B' X X' :=
  ⟨h.size, fun k o hB hk ho => h.blk k o hk (by
    cases o <;> simp_all [TW, Obj.isCells]
    omega)⟩

set_option maxRecDepth 100000 in
set_option maxHeartbeats 2000000 in
theorem event_start (B r mb bb n : Nat) (i ec ea evv : Int) (W : Wk) (w : World) (hs : OrdL.SrtW W) (hn : n < 1000000) (h : WAt B w r mb bb n W) (hkeys : ∀ k ∈ W.tries.map (·.1), (Lit.int .i64 k).wf = true) :
    Calls Try.prog 10 #[.pointer (some ⟨r, 0, none⟩), .int .i64 i, .agg #[.int .i64 9, .int .i64 ec, .int .i64 ea, .int .u64 evv]] w fun e w' => e = .returned (.tuple #[]) ∧ WAt B w' r mb bb (n + 1) (W.event i ⟨9, ec, ea, evv⟩) ∧ Kp (TW B mb bb) w w' := by
  have e1 : W.event i ⟨9, ec, ea, evv⟩ = (W.tries.map (·.1)).foldl OrdL.Wk.end_ W := by simp [OrdL.Wk.event]
  rw [e1]
  obtain ⟨dv, h⟩ := h
  have hA : WAt B ((w.alloc (.cells #[.pointer (some ⟨r, 0, none⟩)] 35)).alloc (.cells #[.int .i64 9, .int .i64 ec, .int .i64 ea, .int .u64 evv] 26)) r mb bb n W := ⟨dv, (h.alloc _).alloc _⟩
  have T := Lib.hid (ends_any B r mb bb n W _ hn hs hA)
  have n1 := Lib.hid (box_of w r (.cells #[.int .i64 9, .int .i64 ec, .int .i64 ea, .int .u64 evv] 26))
  have k0 := Lib.hid (((Kp.refl (TW B mb bb) w).alloc (.cells #[.pointer (some ⟨r, 0, none⟩)] 35)).alloc (.cells #[.int .i64 9, .int .i64 ec, .int .i64 ea, .int .u64 evv] 26))
  have HA := Lib.hid hA
  clear h hA e1
  have hf14 : Fence.wide.fn 14 := trivial
  have hf13 : Fence.wide.fn 13 := trivial
  refine (callsIn_wide (n := 10)).1 ?_
  refine callsIn_of_wp_marks Try.func10 rfl trivial ?_ rfl
  simp only [Try.ntmps10, List.size_toArray, List.length_cons, List.length_nil, Nat.reduceAdd, Nat.reduceSub, Array.replicate_succ, Array.replicate_zero, List.push_toArray, List.append_toArray, List.nil_append, List.cons_append]
  gi_wp2_with (gi_at_call 14; refine (callsIn_wide.2 T.out).mono ?_; rintro e w1 ⟨Bs, sv, rfl, hBs, hBs2, hsv, hrow, hb⟩)
  have N1 := Lib.hid ((hb.block _ (by simp only [World.size_alloc]; omega)).trans n1.out)
  have K1 := Lib.hid (k0.out.then_below hb)
  obtain ⟨dv1, hA1⟩ := HA.out
  have H1 := Lib.hid (hA1.below hb)
  have HS := Lib.hid hsv
  have HR := Lib.hid hrow
  have hsz := Lib.hid hb.size
  clear hb hsv hrow hA1 HA n1 k0 T
  obtain ⟨s, hs1, hs2, cs, t, hs3, hs4⟩ : ∃ s, s < w1.heap.size ∧ (sv.ownBlock = none ∨ sv.ownBlock = some s) ∧ ∃ cs t, w1.heap[s]? = some (.cells cs t (0, 0)) ∧ t ≠ 43 ∧ t ≠ 46 := by
    cases hv : sv.ownBlock with
    | none => exact ⟨w.heap.size, (Array.getElem?_eq_some_iff.1 N1.out).1, .inl rfl, _, _, N1.out, by decide, by decide⟩
    | some k =>
      obtain ⟨cs, hcs⟩ := row_obj HR.out hv
      exact ⟨k, (Array.getElem?_eq_some_iff.1 hcs).1, .inr rfl, _, _, hcs, by decide, by decide⟩
  have hkeep : ∀ Y Z : World, Kp (TW B mb bb) w1 Y → Kp (TW B mb bb) Y Z → SameAt s Y Z := fun Y Z hA hB => by
    have hnT : ¬ TW B mb bb s (.cells cs t (0, 0)) := fun x => x.2.elim hs4.1 hs4.2
    have hx := hA.blk _ _ hs3 hnT
    exact (hB.blk _ _ hx hnT).trans hx.symm
  have HKEEP := Lib.hid hkeep
  have HM1 := Lib.hid H1.out.tries.lt
  have HM2 := Lib.hid H1.out.backs.lt
  clear hkeep hs3 hs4
  gi_wp2
  obtain ⟨ks, hks⟩ := lift64 _ hkeys
  have hrow : w1.ownsRow ((w.alloc (.cells #[.pointer (some ⟨r, 0, none⟩)] 35)).alloc (.cells #[.int .i64 9, .int .i64 ec, .int .i64 ea, .int .u64 evv] 26)).heap.size 3 1 sv ks.length (ks.map fun x => Value.int .i64 x.1) := by
    have := HR.out
    rw [← hks] at this
    simpa using this
  have hlen : ks.length ≤ n := by have := congrArg List.length hks; simp at this; have := H1.out.len; omega
  have hfold : (W.tries.map (·.1)).foldl OrdL.Wk.end_ W = ks.foldl (fun u x => u.end_ x.1) W := by rw [← hks, List.foldl_map]
  have HF := Lib.hid hfold
  clear hfold
  refine rangeFunc1 (n := 10) rfl (by omega) (gf := 27) (lb := #[.pointer (some ⟨Bs, 0, none⟩)]) rfl trivial (enters_of Try.func27 (by kernel_rfl) rfl) (by simp)
    (values_stops (fun x : I64 => x.1) 9 (by omega) Bs _ s sv ks (by omega) w1 hBs HS.out hrow hs2)
    (fun h k => SameAt.trans h k) (fun X l o o' hl _ _ _ => World.putObj_heap_other (by omega)) (Below.refl _ _)
    (fun pre X => WAt B X r mb bb n (pre.foldl (fun u (x : I64) => u.end_ x.1) W) ∧ Kp (TW B mb bb) w1 X)
    (fun _ _ _ => False) ?hI (fun _ _ _ _ _ hs _ _ => hs) ⟨⟨dv1, H1.out⟩, Kp.refl _ _⟩ ?body ?done ?stop
  case hI =>
    rintro pre X X' row ⟨⟨d, hW⟩, hk⟩ hg hr
    refine ⟨⟨d, hW.others hg (fun k hk => (hr k hk).2) (fun e => by have := (hr mb e).1; have := HM1.out; omega) (fun e => by have := (hr bb e).1; have := HM2.out; omega)⟩, hk.grown hg (fun k o e ho => ?_)⟩
    have := (hr k e).1
    have := (Array.getElem?_eq_some_iff.1 ho).1
    omega
  case body =>
    rintro l pre x X ⟨hW, hk⟩ hlt
    have c0 : X.cell? ⟨w.heap.size, 0, none⟩ = some (.pointer (some ⟨r, 0, none⟩)) := cell_obj (hk.blk _ _ N1.out (by simp [TW])) 0
    have E := Lib.hid (end_any B r mb bb n x.1 _ X x.2 hn hW)
    have HK := Lib.hid hk
    clear hW hk
    gi_wp2_with (gi_at_call 13; refine (CallsIn.inRound l (callsIn_wide.2 E.out)).mono ?_; rintro e X' ⟨rfl, hW', hk'⟩)
    exact ⟨hk'.from_ HM1.out HM2.out, HKEEP.out _ _ HK.out hk', by rw [List.foldl_append]; exact hW', HK.out.trans hk'⟩
  case done =>
    rintro D xs X hD rfl ⟨hW, hk⟩ hdef
    have HD := Lib.hid hdef
    have HW := Lib.hid hW
    have HK := Lib.hid hk
    clear hdef hW hk
    gi_wp2
    obtain ⟨d, hW⟩ := HW.out
    refine ⟨by simp, .inl ⟨_, _, rfl, run_takeDeferred HD.out, ?_⟩⟩
    refine ⟨_, results_none rfl _ _ _, rfl, ?_, ?_⟩
    · rw [HF.out]
      exact ⟨d, (hW.others (grownBy_putObj' X D (.deferred none)) (fun k e => by cases e; exact ⟨_, HD.out, rfl⟩) (fun e => by cases e; have := HM1.out; omega) (fun e => by cases e; have := HM2.out; omega)).mono (Nat.le_succ n)⟩
    · exact (K1.out.trans HK.out).grown (grownBy_putObj' X D (.deferred none)) (fun k o e ho => by
        cases e
        have := (Array.getElem?_eq_some_iff.1 ho).1
        have := K1.out.size
        omega)
  case stop =>
    rintro D c pre X _ _ h _
    exact h.elim
end Go.Proofs.Ytmplhchplehhlaa
