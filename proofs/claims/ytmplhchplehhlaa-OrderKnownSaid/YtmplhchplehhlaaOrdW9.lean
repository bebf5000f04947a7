/- Walks over chapter 24's methods: the sort of the deeds. -/
import Derived.Test.YtmplhchplehhlaaOrdSh
import Derived.Test.YtmplhchplehhlaaOrdW4
import Derived.Test.YtmplhchplehhlaaOrdPlain2
import Derived.Shelf.SlSortCmp.WholeK
namespace Go.Proofs.Ytmplhchplehhlaa
open Go.RowKit Go.Lib Go.Sort Go.Shelf
open OrdL (Ev Tr Wk)

theorem cmp_any (a b : Int) (W : World) : Calls Try.prog 18 #[.int .i64 a, .int .i64 b] W fun e w' => e = .returned (.int .i64 (Lib.compareInt a b)) ∧ w' = W :=
  AnyG.cmp_Compare_int Try.cmpInt a b W

set_option maxHeartbeats 1000000 in
/-- the closure of close: two blocks are laid -/
theorem closure_any (x y : Int × Int) (W : World) : Calls Try.prog 17 #[.agg #[.int .i64 x.1, .int .i64 x.2], .agg #[.int .i64 y.1, .int .i64 y.2]] W fun e w' => e = .returned (.int .i64 (Lib.compareInt x.1 y.1)) ∧ ∃ q os', w' = grow (W.drewN q) os' := by
  have hcon := fun W' => cmp_any x.1 y.1 W'
  generalize Lib.compareInt x.1 y.1 = r at hcon ⊢
  go_enter Try.func17, Try.ntmps17
  go_wp2_with (go_at_call 18; refine (hcon _).mono ?_; rintro e w' ⟨rfl, rfl⟩)
  go_ret
  exact ⟨rfl, 0, _, by rw [alloc_eq_grow, alloc_eq_grow, grow_grow]; rfl⟩

theorem cmpLaysD (blk off size : Nat) (w : World) : CmpLays Try.prog 17 #[] deedV 2 (fun x y => Lib.compareInt x.1 y.1) blk off size w :=
  fun _ _ _ _ x y => closure_any x y _

theorem ltD (x y : Int × Int) : ltOf (fun x y : Int × Int => Lib.compareInt x.1 y.1) x y = decide (x.1 < y.1) := by
  unfold ltOf Lib.compareInt
  by_cases h1 : x.1 < y.1
  · simp [h1]
  · by_cases h2 : y.1 < x.1 <;> simp [h1, h2]
theorem swoD : SWO (ltOf fun x y : Int × Int => Lib.compareInt x.1 y.1) where
  irrefl x := by rw [ltD]; simp
  trans x y z h1 h2 := by rw [ltD] at *; simp at *; omega
  ntrans x y z h1 h2 := by rw [ltD] at *; simp at *; omega

theorem deedsV_get (l : List (Int × Int)) : ∀ (t : Nat) (p : Int × Int), l[t]? = some p → (deedsV l)[t * 2]? = some (.int .i64 p.1) ∧ (deedsV l)[t * 2 + 1]? = some (.int .i64 p.2) := by
  induction l with
  | nil => intro t p h; simp at h
  | cons a l ih =>
    intro t p h
    cases t with
    | zero => simp at h; subst h; exact ⟨rfl, rfl⟩
    | succ t =>
      simp at h
      have := ih t p h
      rw [show (t + 1) * 2 = t * 2 + 1 + 1 by omega]
      exact this
theorem deedsV_len (l : List (Int × Int)) : (deedsV l).length = l.length * 2 := by
  induction l with
  | nil => rfl
  | cons a l ih =>
    have : deedsV (a :: l) = deedV a ++ deedsV l := rfl
    rw [this, List.length_append, ih]; simp [deedV]; omega

theorem flat_list (l : List (Int × Int)) : (flatK deedV 2 l.toArray).toList = deedsV l := by
  apply List.ext_getElem?
  intro t
  by_cases ht : t < l.length * 2
  · have h1 : t < (flatK deedV 2 l.toArray).size := by simp; omega
    have h2 : t < (deedsV l).length := by rw [deedsV_len]; exact ht
    have hd : t / 2 < l.length := by omega
    have e1 : (flatK deedV 2 l.toArray).toList[t]? = some ((flatK deedV 2 l.toArray)[t]!) := by
      rw [Array.getElem?_toList, getElem!_pos _ t h1, Array.getElem?_eq_getElem h1]
    rw [e1, get_flatK _ _ _ _ (by simpa using ht)]
    have hx : l[t / 2]? = some l[t / 2] := List.getElem?_eq_getElem hd
    have hg := deedsV_get l (t / 2) _ hx
    have e2 : (l.toArray[t / 2]!) = l[t / 2] := by simp [hd]
    rw [e2]
    have hm : t % 2 = 0 ∨ t % 2 = 1 := by omega
    rcases hm with hm | hm
    · rw [hm]
      have h3 := hg.1
      rw [show t / 2 * 2 = t by omega] at h3
      rw [h3]; rfl
    · rw [hm]
      have h3 := hg.2
      rw [show t / 2 * 2 + 1 = t by omega] at h3
      rw [h3]; rfl
  · rw [List.getElem?_eq_none (by simp; omega), List.getElem?_eq_none (by rw [deedsV_len]; omega)]

/-- the deeds' row, sorted -/
theorem sort_any (B g cap : Nat) (l : List (Int × Int)) (hn : (l.map (·.1)).Nodup) (w : World) (hl : l.length < 1000000000)
    (h : w.ownsRow B 46 2 (.slice (some ⟨g, 0, none⟩) l.length cap) l.length (deedsV l)) :
    Calls Try.prog 16 #[.slice (some ⟨g, 0, none⟩) l.length cap, .func (.func 17) #[] #[]] w fun e w' =>
      e = .returned (.tuple #[]) ∧ w'.ownsRow B 46 2 (.slice (some ⟨g, 0, none⟩) l.length cap) l.length (deedsV (OrdL.sortD l)) ∧ Kp (fun k _ => k = g) w w' := by
  obtain ⟨cur, hgB, hcur, hcap, hmx, hsz, htake⟩ : ∃ cur, B ≤ g ∧ w.heap[g]? = some (.cells cur 46 (0, 0)) ∧ l.length ≤ cap ∧ cap ≤ maxLen ∧ cur.size = cap * 2 ∧ cur.toList.take (l.length * 2) = deedsV l := by
    rcases h.2 with ⟨hv, _⟩ | ⟨g', cap', cur, hv, h0, h1, h2, h3, h4, h5⟩
    · cases hv
    · cases hv; exact ⟨cur, h0, h1, h2, h3, h4, h5⟩
  have eg : ∀ args w, (callFunc 17 args).run Try.prog w = .ok (.enter 17 args) w := enters_of Try.func17 (by kernel_rfl) rfl
  have hH : HoldsK deedV 2 w g 0 l.toArray := by
    intro j hj
    rw [Nat.zero_add, cell_obj hcur, frozen_obj hcur]
    refine ⟨?_, rfl⟩
    have e1 : (flatK deedV 2 l.toArray).toList[j]? = some ((flatK deedV 2 l.toArray)[j]!) := by
      rw [Array.getElem?_toList, getElem!_pos _ j hj, Array.getElem?_eq_getElem hj]
    have hj' : j < l.length * 2 := by simpa using hj
    rw [flat_list, ← htake, List.getElem?_take, if_pos hj', Array.getElem?_toList] at e1
    rw [e1]; rfl
  have hcon := AnyQ.slices_SortFunc Try.sortDeed 2 Try.isAgg46 Try.sizeOf46 deedV (fun _ => rfl) (fun x v hv => by simp [deedV] at hv; rcases hv with rfl | rfl <;> rfl) (fun x y => Lib.compareInt x.1 y.1) swoD 17 #[] g 0 cap l.toArray w eg (cmpLaysD g 0 l.toArray.size w) hH (Array.getElem?_eq_some_iff.1 hcur).1 (by simp; omega)
  change Calls Try.prog 16 _ _ _ at hcon
  simp only [List.size_toArray] at hcon
  refine hcon.mono ?_
  rintro e w' ⟨rfl, d', n, os, hp, hs, rfl⟩
  obtain ⟨hps, _, hpp⟩ := hp
  have hd : d'.size = l.length := by simpa using hps
  have hperm : d'.toList.Perm l := by
    have e1 : (d'.extract 0 l.length) = d' := by rw [← hd]; exact Array.extract_size
    have e2 : (l.toArray.extract 0 l.length).toList = l := by simp
    rw [e1, e2] at hpp; exact hpp
  have hsort : OrdL.sortD l = d'.toList := by
    refine OrdL.sortD_unique hn hperm ?_
    rw [List.pairwise_iff_getElem]
    intro i j hi hj hij
    have := hs i j (Nat.zero_le _) hij (by simp at hj; omega)
    rw [ltD, decide_eq_false_iff_not] at this
    simp at hi hj
    rw [getElem!_pos d' i hi, getElem!_pos d' j hj] at this
    simpa using this
  have hobj : (sortWorldK deedV 2 w g 0 n d' os).heap[g]? = some (.cells (putCells id 0 (flatK deedV 2 d') cur) 46 (0, 0)) := by
    have hlt := (Array.getElem?_eq_some_iff.1 hcur).1
    simp only [sortWorldK, grow, putRowK, putRow, mapBlock, Sort.ahead]
    rw [Array.getElem?_append, if_pos (by simpa using hlt), Array.getElem?_modify, if_pos rfl, hcur]
    rfl
  have hfl : (flatK deedV 2 d').toList = deedsV d'.toList := by have := flat_list d'.toList; simpa using this
  have hfs : (flatK deedV 2 d').size = l.length * 2 := by rw [size_flatK, hd]
  refine ⟨rfl, ?_, ?_⟩
  · rw [hsort]
    refine ⟨by rw [deedsV_len]; simp [hd], Or.inr ⟨g, cap, _, rfl, hgB, hobj, hcap, hmx, by simp [putCells, hsz], ?_⟩⟩
    apply List.ext_getElem?
    intro j
    rw [List.getElem?_take]
    by_cases hj : j < l.length * 2
    · rw [if_pos hj, ← hfl, Array.getElem?_toList, Array.getElem?_toList]
      have hjc : j < cur.size := by omega
      simp [putCells, hfs, hj, hjc]
    · rw [if_neg hj, List.getElem?_eq_none (by rw [deedsV_len]; simp [hd]; omega)]
  · refine ⟨rfl, rfl, rfl, ?_, fun k o hk hne => ?_⟩
    · simp [sortWorldK, grow, putRowK, putRow, mapBlock, Sort.ahead]
    · have hlt := (Array.getElem?_eq_some_iff.1 hk).1
      simp only [sortWorldK, grow, putRowK, putRow, mapBlock, Sort.ahead]
      rw [Array.getElem?_append, if_pos (by simpa using hlt), Array.getElem?_modify, if_neg (fun e => hne e.symm)]
      exact hk
end Go.Proofs.Ytmplhchplehhlaa
