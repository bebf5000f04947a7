/- Walks over chapter 24's methods. -/
import Derived.Test.YtmplhchplehhlaaOrdRep
import Derived.RegionTactic
import Derived.Deep.RegionLaw
import Derived.Outline
import Derived.Lib.Hide
namespace Go.Proofs.Ytmplhchplehhlaa
open Go.RowKit
open OrdL (Ev Tr Wk)

theorem line_neg (a : Int) (w : World) (h : a < 4096) :
    Calls Try.prog 23 #[.int .i64 a] w fun e w' => e = .returned (.int .i64 (-1)) ∧ w = w' := by
  go_enter Try.func23, Try.ntmps23
  go_wp2
  go_ret
  exact ⟨rfl, rfl⟩
theorem line_pos (a : Int) (w : World) (h : 4096 ≤ a) (h2 : a ≤ 9223372036854775807):
    Calls Try.prog 23 #[.int .i64 a] w fun e w' => e = .returned (.int .i64 ((a - 4096) / 64)) ∧ w = w' := by
  go_enter Try.func23, Try.ntmps23
  go_wp2
  go_ret
  exact ⟨rfl, rfl⟩

theorem WRep.alloc {w : World} {B r mb bb n : Nat} {dv : Value} {W : Wk} (h : WRep B w r mb bb n dv W) (o : Obj) : WRep B (w.alloc o) r mb bb n dv W :=
  ⟨(Below.heap_alloc _ _ _ (Array.getElem?_eq_some_iff.1 h.obj).1).trans h.obj, h.tries.alloc o, h.backs.alloc o, h.deeds.alloc o, h.ne, h.base, h.len, h.lenB⟩
theorem WRep.drew {w : World} {B r mb bb n : Nat} {dv : Value} {W : Wk} (h : WRep B w r mb bb n dv W) : WRep B w.drew r mb bb n dv W :=
  ⟨h.obj, h.tries, h.backs, h.deeds, h.ne, h.base, h.len, h.lenB⟩
theorem WRep.mono {w : World} {B r mb bb n n' : Nat} {dv : Value} {W : Wk} (h : WRep B w r mb bb n dv W) (hn : n ≤ n') : WRep B w r mb bb n' dv W :=
  ⟨h.obj, h.tries, h.backs, h.deeds, h.ne, h.base, Nat.le_trans h.len hn, Nat.le_trans h.lenB hn⟩

theorem deedsV_snoc (l : List (Int × Int)) (p : Int × Int) : deedsV (l ++ [p]) = deedsV l ++ deedV p := by simp [deedsV]

/-- behind 'w.deeds = append(w.deeds, deed{..})' -/
theorem WRep.appended {W1 w2 : World} {B r mb bb n g cap : Nat} {dv : Value} {W : Wk} {Ob : Obj} {p : Int × Int} (h : WRep B W1 r mb bb n dv W)
    (hown : w2.ownsRow B 46 2 (.slice (some ⟨g, 0, none⟩) (W.deeds.length + 1) cap) (W.deeds.length + 1) (deedsV W.deeds ++ deedV p))
    (hgr : (W1.alloc Ob).drew.grownBy w2 dv.ownBlock) (hat : dv.ownBlock = some g ∨ g = W1.heap.size + 1) :
    WRep B (w2.setCell ⟨r, 1, none⟩ (.slice (some ⟨g, 0, none⟩) (W.deeds.length + 1) cap)) r mb bb (n + 1) (.slice (some ⟨g, 0, none⟩) (W.deeds.length + 1) cap) { W with deeds := W.deeds ++ [p] } ∧
      Kp (TW B mb bb) W1 (w2.setCell ⟨r, 1, none⟩ (.slice (some ⟨g, 0, none⟩) (W.deeds.length + 1) cap)) := by
  have hlt := (Array.getElem?_eq_some_iff.1 h.obj).1
  have hkp : Kp (TW B mb bb) W1 w2 := (((Kp.refl (TW B mb bb) W1).alloc Ob).drew).grown hgr (fun k o hk ho => by
    obtain ⟨cs, hcs⟩ := row_obj h.deeds hk
    rw [hcs] at ho; cases ho; exact ⟨row_base h.deeds hk, Or.inr rfl⟩)
  have keep : ∀ k o, W1.heap[k]? = some o → dv.ownBlock ≠ some k → w2.heap[k]? = some o := fun k o hk hne => by
    have hl := (Array.getElem?_eq_some_iff.1 hk).1
    exact (hgr.block k (by simp; omega) (fun e => hne e.symm)).trans ((Below.heap_alloc _ _ _ hl).trans hk)
  have ho2 := keep r _ h.obj (row_ne h.deeds h.obj (by decide))
  obtain ⟨es, c, hm⟩ := h.tries.isMap
  obtain ⟨es', c', hm'⟩ := h.backs.isMap
  have hrm : mb ≠ r := by intro e; rw [e, h.obj] at hm; cases hm
  have hrb : bb ≠ r := by intro e; rw [e, h.obj] at hm'; cases hm'
  have hgr2 : g ≠ r := by
    intro e
    rcases hat with hat | hat
    · exact row_ne h.deeds h.obj (by decide) (by rw [hat, e])
    · omega
  refine ⟨⟨?_, ?_, ?_, ?_, h.ne, h.base, by simp; have := h.len; omega, Nat.le_succ_of_le h.lenB⟩, hkp.setCell _ (fun o ho => by rw [h.obj] at ho; cases ho; exact ⟨h.base.1, Or.inl rfl⟩)⟩
  · rw [heap_set ho2]; rfl
  · exact ((h.tries.kept_heap ((keep mb _ hm (row_ne_map h.deeds hm)).trans hm.symm)).setCell (p := ⟨r, 1, none⟩) (fun e => hrm e.symm) _)
  · exact ((h.backs.kept_heap ((keep bb _ hm' (row_ne_map h.deeds hm')).trans hm'.symm)).setCell (p := ⟨r, 1, none⟩) (fun e => hrb e.symm) _)
  · rw [deedsV_snoc, List.length_append]
    refine row_kept hown (fun k hk => ?_)
    simp only [Value.ownBlock, Option.some.injEq] at hk
    subst hk
    exact Below.heap_setCell _ _ _ _ hgr2

/-- behind 'delete(w.tries, core)' -/
theorem WRep.deleted {w w' : World} {B r mb bb n : Nat} {dv : Value} {W : Wk} {core : Int} (h : WRep B w r mb bb (n + 1) dv W) {t : Tr} (ht : OrdL.getK core W.tries = some t) (hB : W.backs.length ≤ n) {m : Nat} (hm : IMap w' Try.prog 3 mb m (delV core (W.tries.map encT))) (hg : w.grownBy w' (some mb)) :
    WRep B w' r mb bb n dv { W with tries := OrdL.delK core W.tries } ∧ Kp (TW B mb bb) w w' := by
  obtain ⟨es, c, h1⟩ := h.tries.isMap
  obtain ⟨es', c', h2⟩ := h.backs.isMap
  have keep : ∀ k o, w.heap[k]? = some o → k ≠ mb → w'.heap[k]? = some o := fun k o hk hne =>
    (hg.block k (Array.getElem?_eq_some_iff.1 hk).1 (by simpa using hne)).trans hk
  refine ⟨⟨keep r _ h.obj (fun e => ?_), by rw [delV_T] at hm; simpa using hm.tight, h.backs.kept_heap ((keep bb _ h2 (fun e => h.ne e.symm)).trans h2.symm), row_kept h.deeds (fun k hk => ?_), h.ne, h.base, by have := h.len; have := getK_len ht; dsimp only; omega, hB⟩, (Kp.refl (TW B mb bb) w).grown hg (fun k o hk ho => ?_)⟩
  · rw [← e, h.obj] at h1; cases h1
  · obtain ⟨cs, hcs⟩ := row_obj h.deeds hk
    exact (keep k _ hcs (fun e => by rw [e, h1] at hcs; cases hcs)).trans hcs.symm
  · cases hk; rw [h1] at ho; cases ho; exact ⟨h.base.2.1, Or.inl rfl⟩

theorem end_any (B r mb bb n : Nat) (core : Int) (W : Wk) (w : World) (hwf : (Lit.int .i64 core).wf = true) (hn : n < 1000000) (h : WAt B w r mb bb n W) :
    Calls Try.prog 13 #[.pointer (some ⟨r, 0, none⟩), .int .i64 core] w fun e w' => e = .returned (.tuple #[]) ∧ WAt B w' r mb bb n (W.end_ core) ∧ Kp (TW B mb bb) w w' := by
  obtain ⟨dv, h⟩ := h
  have c0 : w.cell? ⟨r, 0, none⟩ = some (.map (some mb)) := by simp [World.cell?, h.obj]
  have c1 : w.cell? ⟨r, 1, none⟩ = some dv := by simp [World.cell?, h.obj]
  have f1 : w.frozen? ⟨r, 1, none⟩ = false := by simp [World.frozen?, h.obj]
  obtain ⟨i0, hi, hz0, hz1, hz2⟩ := info_parts infoD
  cases hg : OrdL.getK core W.tries with
  | none =>
    have e1 : W.end_ core = W := by simp [OrdL.Wk.end_, hg]
    rw [e1]
    go_enter Try.func13, Try.ntmps13
    go_wp2_with (at_lookup; refine wpList_ilook_ok _ rfl _ _ 39 rfl 3 52 Try.underlying3 Try.underlying39 (zeroTry _) mb _ _ rfl h.tries core hwf rfl ?_; rw [getV_T, hg]; simp only [Option.map_none, Option.getD_none, Option.isSome_none])
    go_end0
    exact ⟨rfl, ⟨dv, h.alloc _⟩, (Kp.refl _ _).alloc _⟩
  | some t =>
    have e1 : W.end_ core = { W with deeds := W.deeds ++ [(t.pos, core)], tries := OrdL.delK core W.tries } := by simp [OrdL.Wk.end_, hg]
    rw [e1]
    obtain ⟨⟨tk, tc, ta, tv⟩, tp, to⟩ := t
    have HG := Lib.hid hg
    clear hg e1
    go_enter Try.func13, Try.ntmps13
    go_wp2_with (at_lookup; refine wpList_ilook_ok _ rfl _ _ 39 rfl 3 52 Try.underlying3 Try.underlying39 (zeroTry _) mb _ _ rfl h.tries core hwf rfl ?_; rw [getV_T, HG.out]; simp only [Option.map_some, Option.getD_some, Option.isSome_some, trV, evV, List.cons_append, List.nil_append])
    have hA := h.alloc (.cells #[.int .i64 tk, .int .i64 tc, .int .i64 ta, .int .u64 tv, .int .i64 tp, .bool to] 52)
    have hT : (w.alloc (.cells #[.int .i64 tk, .int .i64 tc, .int .i64 ta, .int .u64 tv, .int .i64 tp, .bool to] 52)).cell? ⟨w.heap.size, 4, none⟩ = some (.int .i64 tp) := by rw [cell_new]; rfl
    have hK : Kp (TW B mb bb) w (w.alloc (.cells #[.int .i64 tk, .int .i64 tc, .int .i64 ta, .int .u64 tv, .int .i64 tp, .bool to] 52)) := (Kp.refl _ _).alloc _
    generalize w.alloc (.cells #[.int .i64 tk, .int .i64 tc, .int .i64 ta, .int .u64 tv, .int .i64 tp, .bool to] 52) = W1 at hA hT hK ⊢
    have c0' : W1.cell? ⟨r, 0, none⟩ = some (.map (some mb)) := by simp [World.cell?, hA.obj]
    have c1' : W1.cell? ⟨r, 1, none⟩ = some dv := by simp [World.cell?, hA.obj]
    have f1' : W1.frozen? ⟨r, 1, none⟩ = false := by simp [World.frozen?, hA.obj]
    clear c0 c1 f1
    have hO : ((W1.alloc (.cells #[.int .i64 tp, .int .i64 core] 46)).drew).ownsRow B 46 2 dv W.deeds.length (deedsV W.deeds) := hA.deeds.alloc _
    have hN : ∀ j u, (deedV (tp, core))[j]? = some u → ((W1.alloc (.cells #[.int .i64 tp, .int .i64 core] 46)).drew).cell? ((⟨W1.heap.size, 0, none⟩ : Addr).add j) = some u := World.news_of_block (heap_new W1 _)
    have hL := Lib.hid hA.len
    have c1a : (W1.alloc (.cells #[.int .i64 tp, .int .i64 core] 46)).cell? ⟨r, 1, none⟩ = some dv := (World.cell?_alloc_past _ _ _ (Array.getElem?_eq_some_iff.1 hA.obj).1).trans c1'
    have hR := Lib.hid (row_ne hA.deeds hA.obj (by decide))
    have hM := Lib.hid hA
    go_region_law (refine step_append_lies _ rfl (.tmp 20) (.tmp 25) 41 rfl B 46 i0 (.agg #[.int .i64 0, .int .i64 0]) 2 16 Try.underlying41 hi hz0 hz1 hz2 rfl (by decide) dv W.deeds.length (deedsV W.deeds) (by simp [Act.eval]) hO ⟨W1.heap.size, 0, none⟩ 1 1 (deedV (tp, core)) (by simp [Act.eval]) rfl hN (by simp [deedV, Value.oneCell']) (by decide) (by have := hL.out; unfold maxLen; omega) (by have := hL.out; omega) (by have := hM.out.base.1; have := (Array.getElem?_eq_some_iff.1 hM.out.obj).1; simp; omega) (W1.heap.size + 1) (by simp) ?_; intro g cap w2 hown2 hgrow2 hat2 hlt2; have c2 : w2.heap[r]? = some (.cells #[.map (some mb), dv, .map (some bb)] 43 (0, 0)) := (hgrow2.block r (by have := (Array.getElem?_eq_some_iff.1 hM.out.obj).1; simp; omega) (fun e => hR.out e.symm)).trans ((Below.heap_alloc _ _ _ (Array.getElem?_eq_some_iff.1 hM.out.obj).1).trans hM.out.obj); have f2 : w2.frozen? ⟨r, 1, none⟩ = false := frozen_obj c2 1; have c2' : w2.cell? ⟨r, 1, none⟩ = some dv := cell_obj c2 1; have C2 := Lib.hid c2; clear c2)
    all_goals
      obtain ⟨HA, HK⟩ := hM.out.appended (p := (tp, core)) hown2 hgrow2 hat2
      have HM := Lib.hid HA
      have c3 : (w2.setCell ⟨r, 1, none⟩ (.slice (some ⟨g, 0, none⟩) (W.deeds.length + 1) cap)).cell? ⟨r, 0, none⟩ = some (.map (some mb)) := cell_obj HM.out.obj 0
      have hm3 := HA.tries
      clear hown2 hgrow2 hat2 c2' f2 hO hN hA hT c0' c1' f1' c1a HA h
      go_wp2_with (at_delete; refine wpList_idel _ rfl _ _ 39 3 rfl 52 Try.underlying3 Try.underlying39 mb _ _ rfl hm3 core hwf rfl ?_; intro w4 hm4 hg4)
      go_end0
      obtain ⟨HB, HK2⟩ := HM.out.deleted HG.out hM.out.lenB hm4 hg4
      exact ⟨rfl, ⟨_, HB⟩, (hK.trans HK).trans HK2⟩
end Go.Proofs.Ytmplhchplehhlaa
