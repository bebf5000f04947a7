/- Walks over chapter 24's methods: close. -/
import Derived.Test.YtmplhchplehhlaaOrdW7
import Derived.Test.YtmplhchplehhlaaOrdW8
import Derived.Test.YtmplhchplehhlaaOrdW9
import Derived.Shelf.SlSortCmp.NoneTotal
namespace Go.Proofs.Ytmplhchplehhlaa
open Go.RowKit Go.Maps Go.Shelf
open OrdL (Ev Tr Wk)
attribute [local go_sem] Oper.semAt_some

theorem box1_of (w : World) (r : Nat) : (w.alloc (.cells #[.pointer (some ⟨r, 0, none⟩)] 35)).heap[w.heap.size]? = some (.cells #[.pointer (some ⟨r, 0, none⟩)] 35 (0, 0)) := heap_new _ _
def tr0 : Tr := ⟨⟨0, 0, 0, 0⟩, 0, false⟩
theorem look_tr (k : Int) (l : List (Int × Tr)) : (getV k (l.map encT)).getD (.agg #[.int .i64 0, .int .i64 0, .int .i64 0, .int .u64 0, .int .i64 0, .bool false]) = .agg (trV ((OrdL.getK k l).getD tr0)).toArray := by
  rw [getV_T]
  cases OrdL.getK k l <;> rfl

theorem infoI : (Try.prog.info? 3).map (fun i => (i.zero, i.size, i.bytes)) = some (some (.int .i64 0), 1, 8) := by kernel_rfl
theorem sort_none (p : Option Addr) (cap : Nat) (fv : Value) (w : World) : Calls Try.prog 16 #[.slice p 0 cap, fv] w fun e w' => e = .returned (.tuple #[]) ∧ w' = w :=
  AnyF.slices_SortFunc_none Try.sortDeed p cap fv w

theorem sort_any2 (B : Nat) (dv : Value) (l : List (Int × Int)) (hn : (l.map (·.1)).Nodup) (w : World) (hl : l.length < 1000000000) (h : w.ownsRow B 46 2 dv l.length (deedsV l)) :
    Calls Try.prog 16 #[dv, .func (.func 17) #[] #[]] w fun e w' =>
      e = .returned (.tuple #[]) ∧ w'.ownsRow B 46 2 dv l.length (deedsV (OrdL.sortD l)) ∧ Kp (fun k _ => dv.ownBlock = some k) w w' := by
  rcases h.2 with ⟨hv, h0⟩ | ⟨g, cap, cur, hv, _⟩
  · have hl0 : l = [] := List.eq_nil_of_length_eq_zero h0
    subst hv; subst hl0
    refine (sort_none none 0 _ w).mono ?_
    rintro e w' ⟨rfl, rfl⟩
    exact ⟨rfl, by simpa [OrdL.sortD] using h, Kp.refl _ _⟩
  · subst hv
    refine (sort_any B g cap l hn w hl h).mono ?_
    rintro e w' ⟨rfl, h1, h2⟩
    exact ⟨rfl, h1, h2.mono (fun k o _ hk => by subst hk; rfl)⟩

set_option maxRecDepth 100000 in
set_option maxHeartbeats 2000000 in
theorem close_any (B r mb bb n : Nat) (i : Int) (W : Wk) (w : World) (hG : OrdL.Good W i) (hn : n < 1000000) (h : WAt B w r mb bb n W) :
    Calls Try.prog 11 #[.pointer (some ⟨r, 0, none⟩)] w fun e w' => ∃ v, e = .returned v ∧ w'.ownsRow w.heap.size 3 1 v W.close.length (W.close.map (Value.int .i64)) ∧ W.close.length ≤ n ∧ Kp (TW B mb bb) w w' := by
  obtain ⟨dv, h⟩ := h
  have hA : WAt B (w.alloc (.cells #[.pointer (some ⟨r, 0, none⟩)] 35)) r mb bb n W := ⟨dv, h.alloc _⟩
  have T := Lib.hid (ends_any B r mb bb n W _ hn hG.srt hA)
  have n1 := Lib.hid (box1_of w r)
  have k0 := Lib.hid ((Kp.refl (TW B mb bb) w).alloc (.cells #[.pointer (some ⟨r, 0, none⟩)] 35))
  have HA := Lib.hid hA
  clear h hA
  have hf14 : Fence.wide.fn 14 := trivial
  have hf13 : Fence.wide.fn 13 := trivial
  have hf15 : Fence.wide.fn 15 := trivial
  have hf16 : Fence.wide.fn 16 := trivial
  refine (callsIn_wide (n := 10)).1 ?_
  refine callsIn_of_wp_marks Try.func11 rfl trivial ?_ rfl
  simp only [Try.ntmps11, List.size_toArray, List.length_cons, List.length_nil, Nat.reduceAdd, Nat.reduceSub, Array.replicate_succ, Array.replicate_zero, List.push_toArray, List.append_toArray, List.nil_append, List.cons_append]
  gi_wp2_with (gi_at_call 14; refine (callsIn_wide.2 T.out).mono ?_; rintro e w1 ⟨Bs, sv, rfl, hBs, hBs2, hsv, hrow, hb⟩)
  have N1 := Lib.hid ((hb.block _ (by simp only [World.size_alloc]; omega)).trans n1.out)
  have K1 := Lib.hid (k0.out.then_below hb)
  obtain ⟨dv1, hA1⟩ := HA.out
  have H1 := Lib.hid (hA1.below hb)
  have HS := Lib.hid hsv
  have HR := Lib.hid hrow
  clear hb hsv hrow hA1 HA n1 k0 T
  obtain ⟨s, hs1, hs2, cs, t, hs3, hs4⟩ : ∃ s, s < w1.heap.size ∧ (sv.ownBlock = none ∨ sv.ownBlock = some s) ∧ ∃ cs t, w1.heap[s]? = some (.cells cs t (0, 0)) ∧ t ≠ 43 ∧ t ≠ 46 := by
    cases hv : sv.ownBlock with
    | none => exact ⟨w.heap.size, (Array.getElem?_eq_some_iff.1 N1.out).1, .inl rfl, _, _, N1.out, by decide, by decide⟩
    | some k =>
      obtain ⟨cs, hcs⟩ := row_obj HR.out hv
      exact ⟨k, (Array.getElem?_eq_some_iff.1 hcs).1, .inr rfl, _, _, hcs, by decide, by decide⟩
  have hkeep : ∀ Y Z : World, Kp (TW B mb bb) w1 Y → Kp (TW B mb bb) Y Z → SameAt s Y Z := fun Y Z hA hB => by
    have hnT : ¬ TW B mb bb s (.cells cs t (0, 0)) := fun x => x.2.elim hs4.1 hs4.2
    have hx := hA.blk _ _ hs3 hnT
    exact (hB.blk _ _ hx hnT).trans hx.symm
  have HKEEP := Lib.hid hkeep
  have HM1 := Lib.hid H1.out.tries.lt
  have HM2 := Lib.hid H1.out.backs.lt
  have HG := Lib.hid hG
  clear hkeep hs3 hs4 hG
  gi_wp2
  obtain ⟨ks, hks⟩ := lift64 (W.tries.map (·.1)) (fun k hk => by
    obtain ⟨⟨k', t'⟩, hm, rfl⟩ := List.mem_map.1 hk
    exact wf64 (HG.out.fit _ _ hm).1.1 (HG.out.fit _ _ hm).1.2)
  have hrow : w1.ownsRow (w.alloc (.cells #[.pointer (some ⟨r, 0, none⟩)] 35)).heap.size 3 1 sv ks.length (ks.map fun x => Value.int .i64 x.1) := by
    have := HR.out
    rw [← hks] at this
    simpa using this
  have hlen : ks.length ≤ n := by have := congrArg List.length hks; simp at this; have := H1.out.len; omega
  have HF := Lib.hid (show (W.tries.map (·.1)).foldl OrdL.Wk.closeStep W = ks.foldl (fun u x => u.closeStep x.1) W by rw [← hks, List.foldl_map])
  clear hks
  refine rangeFunc1 (n := 10) rfl (by omega) (gf := 27) (lb := #[.pointer (some ⟨Bs, 0, none⟩)]) rfl trivial (enters_of Try.func27 (by kernel_rfl) rfl) (by simp)
    (values_stops (fun x : I64 => x.1) 9 (by omega) Bs _ s sv ks (by omega) w1 hBs HS.out hrow hs2)
    (fun h k => SameAt.trans h k) (fun X l o o' hl _ _ _ => World.putObj_heap_other (by omega)) (Below.refl _ _)
    (fun pre X => WAt B X r mb bb n (pre.foldl (fun u (x : I64) => u.closeStep x.1) W) ∧ Kp (TW B mb bb) w1 X)
    (fun _ _ _ => False) ?hI (fun _ _ _ _ _ hs _ _ => hs) ⟨⟨dv1, H1.out⟩, Kp.refl _ _⟩ ?body ?done ?stop
  case hI =>
    rintro pre X X' row ⟨⟨d, hW⟩, hk⟩ hg hr
    refine ⟨⟨d, hW.others hg (fun k hk => (hr k hk).2) (fun e => by have := (hr mb e).1; have := HM1.out; omega) (fun e => by have := (hr bb e).1; have := HM2.out; omega)⟩, hk.grown hg (fun k o e ho => ?_)⟩
    have := (hr k e).1
    have := (Array.getElem?_eq_some_iff.1 ho).1
    omega
  case body =>
    rintro l pre x X ⟨⟨d, hW⟩, hk⟩ hlt
    have hGk : OrdL.Good (pre.foldl (fun u (x : I64) => u.closeStep x.1) W) i := by
      have := HG.out.foldl_close (pre.map (·.1))
      rwa [List.foldl_map] at this
    have hstep : (pre ++ [x]).foldl (fun u (x : I64) => u.closeStep x.1) W = (pre.foldl (fun u (x : I64) => u.closeStep x.1) W).closeStep x.1 := by rw [List.foldl_append]; rfl
    generalize pre.foldl (fun u (x : I64) => u.closeStep x.1) W = U at hW hGk hstep ⊢
    have c0 : X.cell? ⟨w.heap.size, 0, none⟩ = some (.pointer (some ⟨r, 0, none⟩)) := cell_obj (hk.blk _ _ N1.out (by simp [TW])) 0
    have c1 : X.cell? ⟨r, 0, none⟩ = some (.map (some mb)) := cell_obj hW.obj 0
    have hfit : OrdL.Fit64 ((OrdL.getK x.1 U.tries).getD tr0).last.at_ := by
      cases hg : OrdL.getK x.1 U.tries with
      | none => exact ⟨by decide, by decide⟩
      | some t => exact (hGk.fit _ _ (OrdL.getK_mem hg)).2
    have L := hW.tries.drew.run_look Try.underlying3 Try.underlying39 (zeroTry _) x.2
    simp only [look_tr] at L
    have hcl : U.closeStep x.1 = if U.kept ((OrdL.getK x.1 U.tries).getD tr0) then U.end_ x.1 else U := rfl
    generalize (OrdL.getK x.1 U.tries).getD tr0 = tt at L hfit hcl
    have HK := Lib.hid hk
    have HW := Lib.hid hW
    have HC := Lib.hid (hstep.trans hcl)
    clear hW hk hstep hcl hGk
    have hmx : Try.prog.follows .mixedOrders = true := by kernel_rfl
    have hd : 1 ≤ 10 - 1 - 1 := by omega
    have KC := kept_any B r mb bb n tt U _ hfit.1 hfit.2 ⟨d, HW.out.drew⟩
    cases hbk : U.kept tt with
    | false =>
      rw [hbk] at KC
      have HKC := Lib.hid KC
      have HC2 := Lib.hid (HC.out.trans (by rw [hbk]))
      clear KC hbk HC hfit
      gi_wp2
      gi_region_with_o (gi_at_call 15; refine (CallsIn.inRound l (callsIn_wide.2 HKC.out)).mono ?_; rintro e X' ⟨rfl, hb'⟩)
      all_goals
        have hkx := (Kp.refl (TW B mb bb) X).drew.then_below hb'
        have hwx := (HW.out.drew).below hb'
        have HKX := Lib.hid hkx
        have HWX := Lib.hid hwx
        clear hkx hwx hb' L
        gi_wp2
        exact ⟨HKX.out.from_ HM1.out HM2.out, HKEEP.out _ _ HK.out HKX.out, by rw [HC2.out]; exact ⟨d, HWX.out⟩, HK.out.trans HKX.out⟩
    | true =>
      rw [hbk] at KC
      have HKC := Lib.hid KC
      have HC2 := Lib.hid (HC.out.trans (by rw [hbk]))
      clear KC hbk HC hfit
      gi_wp2
      gi_region_with_o (gi_at_call 15; refine (CallsIn.inRound l (callsIn_wide.2 HKC.out)).mono ?_; rintro e X' ⟨rfl, hb'⟩)
      all_goals
        have hkx := (Kp.refl (TW B mb bb) X).drew.then_below hb'
        have hwx := (HW.out.drew).below hb'
        have c0' : X'.cell? ⟨w.heap.size, 0, none⟩ = some (.pointer (some ⟨r, 0, none⟩)) := cell_obj (hkx.blk _ _ (HK.out.blk _ _ N1.out (by simp [TW])) (by simp [TW])) 0
        have HKX := Lib.hid hkx
        have HWX := Lib.hid hwx
        clear hkx hwx hb' L
        gi_wp2_with (gi_at_call 13; refine (CallsIn.inRound l (callsIn_wide.2 (end_any B r mb bb n x.1 U X' x.2 hn ⟨d, HWX.out⟩))).mono ?_; rintro e X'' ⟨rfl, hW', hk'⟩)
        exact ⟨(HKX.out.trans hk').from_ HM1.out HM2.out, HKEEP.out _ _ HK.out (HKX.out.trans hk'), by rw [HC2.out]; exact hW', HK.out.trans (HKX.out.trans hk')⟩
  case done =>
    rintro D xs X hD rfl ⟨⟨dU, hU⟩, hk⟩ hdef
    have hGU : OrdL.Good (xs.foldl (fun u (x : I64) => u.closeStep x.1) W) i := by
      have := HG.out.foldl_close (xs.map (·.1))
      rwa [List.foldl_map] at this
    have hclose : W.close = (OrdL.sortD (xs.foldl (fun u (x : I64) => u.closeStep x.1) W).deeds).map (·.2) := by
      unfold OrdL.Wk.close OrdL.Wk.closed; rw [HF.out]
    generalize xs.foldl (fun u (x : I64) => u.closeStep x.1) W = U at hU hGU hclose
    have HCL := Lib.hid hclose
    have hnd : (U.deeds.map (·.1)).Nodup := (List.nodup_append.1 hGU.nod).1
    have n0 := hk.blk _ _ N1.out (by simp [TW])
    have c0 : X.cell? ⟨w.heap.size, 0, none⟩ = some (.pointer (some ⟨r, 0, none⟩)) := cell_obj n0 0
    have c1 : X.cell? ⟨r, 1, none⟩ = some dU := cell_obj hU.obj 1
    have S := Lib.hid (sort_any2 B dU U.deeds hnd X (by have := hU.len; omega) hU.deeds)
    have NE1 := Lib.hid (row_ne hU.deeds hU.obj (by decide))
    have NE2 := Lib.hid (row_ne hU.deeds n0 (by decide))
    have HD := Lib.hid hdef
    have HU := Lib.hid hU
    have HK := Lib.hid hk
    have N0 := Lib.hid n0
    have hsl : (OrdL.sortD U.deeds).length = U.deeds.length := by simp [OrdL.sortD]
    have HSL := Lib.hid hsl
    have hle := HU.out.len
    clear hU hdef hk n0 hGU hclose hsl hnd
    gi_wp2_with fail
    refine (callsIn_wide.2 S.out).mono ?_
    rintro e X2 ⟨rfl, hrow2, hk2⟩
    have c0' : X2.cell? ⟨w.heap.size, 0, none⟩ = some (.pointer (some ⟨r, 0, none⟩)) := cell_obj (hk2.blk _ _ N0.out NE2.out) 0
    have c1' : X2.cell? ⟨r, 1, none⟩ = some dU := cell_obj (hk2.blk _ _ HU.out.obj NE1.out) 1
    have HK2 := Lib.hid hk2
    have HR2 := Lib.hid hrow2
    clear hk2 hrow2 S c0 c1
    generalize OrdL.sortD U.deeds = sd at HSL HR2 HCL
    have hdl : U.deeds.length = sd.length := HSL.out.symm
    rw [hdl] at HR2 hle
    clear hdl HSL
    obtain ⟨i0, hi, hz0, hz1, hz2⟩ := info_parts infoI
    have HDX := Lib.hid (HK2.out.blk _ _ HD.out (fun e => by
      obtain ⟨cs', hcs'⟩ := row_obj HU.out.deeds e
      rw [HD.out] at hcs'; cases hcs'))
    have hszX : w.heap.size ≤ X2.heap.size := Nat.le_trans K1.out.size (Nat.le_trans HK.out.size HK2.out.size)
    have HFIN := Lib.hid (show ∀ Y, RowKit.Below X2.heap.size X2 Y → Kp (TW B mb bb) w (Y.putObj D (.deferred none)) from fun Y hY =>
      (((K1.out.trans HK.out).trans (HK2.out.mono (fun k o ho hk => by
        obtain ⟨cs', hcs'⟩ := row_obj HU.out.deeds hk
        rw [hcs'] at ho; cases ho; exact ⟨row_base HU.out.deeds hk, Or.inr rfl⟩))).then_below hY).grown (grownBy_putObj' Y D (.deferred none)) (fun k o e ho => by
          cases e
          have := (Array.getElem?_eq_some_iff.1 ho).1
          have := K1.out.size
          omega))
    have HFD := Lib.hid (show ∀ Y, RowKit.Below X2.heap.size X2 Y → Y.heap[D]? = some (.deferred (some [])) from fun Y hY =>
      (hY.block D (Array.getElem?_eq_some_iff.1 HDX.out).1).trans HDX.out)
    have HFR := Lib.hid (show ∀ Y, RowKit.Below X2.heap.size X2 Y → ∀ v k xs, Y.ownsRow X2.heap.size 3 1 v k xs → (Y.putObj D (.deferred none)).ownsRow w.heap.size 3 1 v k xs from fun Y hY v k xs h => by
      have h2 : (Y.putObj D (.deferred none)).ownsRow X2.heap.size 3 1 v k xs := row_kept h (fun j hj => World.putObj_heap_other (fun e => by
        obtain ⟨cs', hcs'⟩ := row_obj h hj
        rw [e, (hY.block D (Array.getElem?_eq_some_iff.1 HDX.out).1).trans HDX.out] at hcs'; cases hcs'))
      obtain ⟨h1, h3⟩ := h2
      refine ⟨h1, ?_⟩
      rcases h3 with h3 | ⟨g, cap, cur, hv, hg, r⟩
      · exact Or.inl h3
      · exact Or.inr ⟨g, cap, cur, hv, by omega, r⟩)
    have HRR := HR2.out.2
    rcases HRR with ⟨hv, hl0⟩ | ⟨g, cap, cur, hv, hgB, hgo, hgl, hgm, hgs, hgt⟩
    · -- no deed
      subst hv
      have hsd : sd = [] := List.eq_nil_of_length_eq_zero hl0
      subst hsd
      gi_wp2
      gi_loopw [31, 4] (fun i o wr => i = .int .i64 0 ∧ o = .slice none 0 0 ∧ wr = X2) (fun _ _ _ => 0)
      case atStart => exact ⟨rfl, rfl, rfl⟩
      case round =>
        obtain ⟨rfl, rfl, rfl⟩ := hrel
        gi_wp2
        refine ⟨by simp, .inl ⟨_, _, rfl, run_takeDeferred (HK2.out.blk _ _ HD.out (by simp [Value.ownBlock])), ?_⟩⟩
        refine ⟨_, results_tmp rfl _ _ _, _, rfl, ?_, ?_, ?_⟩
        · rw [HCL.out]; exact World.ownsRow_nil _ _ _ _
        · rw [HCL.out]; exact Nat.zero_le _
        · exact HFIN.out wr (Below.refl _ _)
    · subst hv
      have hcell : ∀ k p, sd[k]? = some p → X2.cell? ⟨g, k * 2, none⟩ = some (.int .i64 p.1) ∧ X2.cell? ⟨g, k * 2 + 1, none⟩ = some (.int .i64 p.2) := fun k p hp => by
        have hk := (List.getElem?_eq_some_iff.1 hp).1
        have h2 := deedsV_get sd k p hp
        rw [← hgt, List.getElem?_take, if_pos (by omega), List.getElem?_take, if_pos (by omega)] at h2
        rw [cell_obj hgo, cell_obj hgo]
        simpa using h2
      have HCE := Lib.hid hcell
      have HG2 := Lib.hid (Array.getElem?_eq_some_iff.1 hgo).1
      clear hcell hgo hgl hgm hgs hgt hgB
      have HLE := Lib.hid hle
      have hlen2 : sd.length ≤ 1000000 := by omega
      clear hle
      gi_wp2
      gi_loopw [31, 4] (fun i o wr => ∃ k : Nat, k ≤ sd.length ∧ i = .int .i64 k ∧ wr.ownsRow X2.heap.size 3 1 o k (((sd.take k).map (·.2)).map (Value.int .i64)) ∧ RowKit.Below X2.heap.size X2 wr) (fun i _ _ => sd.length - (intOf i).toNat)
      case atStart => exact ⟨0, Nat.zero_le _, rfl, World.ownsRow_nil _ _ _ _, RowKit.Below.refl _ _⟩
      case round =>
        obtain ⟨k, hk, rfl, hown, hb⟩ := hrel
        by_cases hlt : k < sd.length
        · obtain ⟨p1, p2⟩ : ∃ p, sd[k]? = some p := ⟨_, List.getElem?_eq_getElem hlt⟩
          have e1 : wr.cell? ⟨g, k * 2, none⟩ = some (.int .i64 p1.1) := (hb.cell (p := ⟨g, k * 2, none⟩) HG2.out).trans (HCE.out k _ p2).1
          have e2 : wr.cell? ⟨g, k * 2 + 1, none⟩ = some (.int .i64 p1.2) := (hb.cell (p := ⟨g, k * 2 + 1, none⟩) HG2.out).trans (HCE.out k _ p2).2
          have HB := Lib.hid hb
          have HO := Lib.hid hown
          have HP := Lib.hid p2
          have hsz2 : X2.heap.size ≤ wr.heap.size := hb.size
          clear hb hown p2
          have hN : ∀ j u, [Value.int .i64 p1.2][j]? = some u → ((wr.alloc (.cells #[.int .i64 p1.1, .int .i64 p1.2] 46)).alloc (.cells #[.int .i64 p1.2] 3)).cell? ((⟨wr.heap.size + 1, 0, none⟩ : Addr).add j) = some u := by
            have := World.news_of_block (heap_new (wr.alloc (.cells #[.int .i64 p1.1, .int .i64 p1.2] 46)) (.cells #[.int .i64 p1.2] 3))
            rw [World.size_alloc] at this
            exact this
          have hN1 : k + 1 ≤ maxLen := by unfold maxLen; omega
          have hN2 : (k + 1) * 8 ≤ 140737488355328 := by omega
          have hN3 : X2.heap.size ≤ ((wr.alloc (.cells #[.int .i64 p1.1, .int .i64 p1.2] 46)).alloc (.cells #[.int .i64 p1.2] 3)).heap.size := by simp; omega
          have HN := Lib.hid hN
          have HN1 := Lib.hid hN1
          have HN3 := Lib.hid hN3
          clear hN hN1 hN3
          gi_wp2_with (gi_at_builtin; refine wpListIn_append_own _ rfl _ _ 27 rfl X2.heap.size 3 i0 (.int .i64 0) 1 8 Try.underlying27 hi hz0 hz1 hz2 rfl (by decide) _ _ _ rfl ((HO.out.alloc _).alloc _) ⟨wr.heap.size + 1, 0, none⟩ 1 1 [.int .i64 p1.2] rfl rfl HN.out (by simp [Value.oneCell']) HN1.out hN2 HN3.out ?_; intro v' w4 hown4 hgrow4 _)
          have hb4 : RowKit.Below X2.heap.size X2 w4 := (((HB.out.alloc hsz2 _).alloc (by simp; omega) _)).grown hgrow4 (by simp; omega) (fun j hj => row_base HO.out hj)
          have HB4 := Lib.hid hb4
          have HO4 := Lib.hid hown4
          clear hb4 hown4 hgrow4
          gi_wp2
          go_roundw
          case rel =>
            refine ⟨k + 1, by omega, by go_num, ?_, HB4.out⟩
            have ht : sd.take (k + 1) = sd.take k ++ [p1] := by rw [List.take_add_one, HP.out]; rfl
            rw [ht, List.map_append, List.map_append]
            exact HO4.out
          case measure => simp [intOf]; omega
        · obtain rfl : k = sd.length := by omega
          have HB := Lib.hid hb
          have HO := Lib.hid hown
          clear hb hown
          gi_wp2
          refine ⟨by simp, .inl ⟨_, _, rfl, run_takeDeferred (HFD.out wr HB.out), ?_⟩⟩
          refine ⟨_, results_tmp rfl _ _ _, _, rfl, ?_, ?_, ?_⟩
          · rw [HCL.out, List.length_map]
            have := HO.out
            rw [List.take_length] at this
            exact HFR.out wr HB.out _ _ _ this
          · rw [HCL.out, List.length_map]; have := HLE.out; omega
          · exact HFIN.out wr HB.out
  case stop =>
    rintro D c pre X _ _ h _
    exact h.elim
end Go.Proofs.Ytmplhchplehhlaa
