/- Walks over chapter 24's methods: ends. -/
import Derived.Test.YtmplhchplehhlaaOrdVal
import Derived.Test.YtmplhchplehhlaaOrdSh
import Derived.Test.YtmplhchplehhlaaOrdW4
namespace Go.Proofs.Ytmplhchplehhlaa
open Go.RowKit Go.Maps Go.Sort Go.Shelf
open OrdL (Ev Tr Wk)

/-- slices.Sort's two contracts at the fence that asks nothing. -/
theorem sortsA (m : Nat) : AnyZI.SortsIn Try.prog Try.sortedA_ren Fence.wide m :=
  ⟨fun blk off cap ss W hH hblk hsz => callsIn_wide.2 (AnyM.slices_Sort_int Try.sortA blk off cap ss W hH hblk hsz),
   fun p cap W => callsIn_wide.2 (AnyM.slices_Sort_int_none Try.sortA p cap W)⟩

theorem sorted_of_perm {ss ks : List Int} (h : ss.Perm ks) (hs : ks.Pairwise (· < ·)) : ss.mergeSort (fun x y => decide (x ≤ y)) = ks := by
  have h1 : (ss.mergeSort (fun x y => decide (x ≤ y))).Perm ks := (List.mergeSort_perm _ _).trans h
  have h2 : (ss.mergeSort (fun x y => decide (x ≤ y))).Pairwise (fun x y => decide (x ≤ y) = true) := List.pairwise_mergeSort (fun a b c => by simp; omega) (fun a b => by simp; omega) _
  refine List.Perm.eq_of_pairwise (le := fun x y : Int => decide (x ≤ y) = true) ?_ h2 (hs.imp (fun h => by simp; omega)) h1
  intro a b _ _ h1 h2
  simp at h1 h2; omega

set_option maxHeartbeats 1000000 in
theorem keys_sorted (mb nn : Nat) (l : List (Int × Value)) (hs : (l.map (·.1)).Pairwise (· < ·)) (w : World) (hown : IMap w Try.prog 3 mb nn l) (hlen : l.length < 1000000000) :
    ∀ W0, W0 = w.alloc (.cells #[.map (some mb)] 39) →
    Calls Try.prog 21 #[.func (.func 30) #[] #[.pointer (some ⟨w.heap.size, 0, none⟩)]] W0
      fun e w' => ∃ v, e = .returned v ∧ w'.ownsRow W0.heap.size 3 1 v l.length ((l.map (·.1)).map (Value.int .i64)) ∧ Below W0.heap.size W0 w' := by
  rintro W0 rfl
  refine (callsIn_wide (n := 5)).1 ?_
  have hbl := hown.lt
  have hsz : Maps.size (DataW.map (l.map litI)) = l.length := by rw [Maps.size_eq]; simp
  have hseq : SeqGives Fence.wide 2 Try.prog 30 #[.pointer (some ⟨w.heap.size, 0, none⟩)] encZ (fun ss => ss.Perm (intKeys (DataW.map (l.map litI)))) (Maps.size (DataW.map (l.map litI))) (w.alloc (.cells #[.map (some mb)] 39)) :=
    AnyZI.keys_gives (ρ := Try.keysA_ren) { Try.keysA with } Fence.wide _ trivial rfl (by omega) w.heap.size mb nn (DataW.map (l.map litI)) _ (by simp) (by simp) (by
      obtain ⟨es, clock, hb, Ft, hs, hD⟩ := hown
      exact ⟨es, clock, (Below.heap_alloc _ _ mb hbl).trans hb, Ft, hs, hD⟩)
  have cS := AnyZI.sorted_in Try.sortedA Fence.wide 5 trivial trivial trivial trivial rfl (by omega) (sortsA _) (enters_of Try.func29 (by kernel_rfl) rfl) 30 #[.pointer (some ⟨w.heap.size, 0, none⟩)] trivial (enters_of Try.func30 (by kernel_rfl) rfl) _ (Maps.size (DataW.map (l.map litI))) (by rw [hsz]; unfold maxLen; omega) (by rw [hsz]; omega) _ hseq
  change CallsIn _ _ Try.prog 21 _ _ _ at cS
  refine cS.mono ?_
  rintro e w' ⟨v, ss, rfl, hS, hrow, hnil, hb⟩
  have hk : intKeys (DataW.map (l.map litI)) = l.map (·.1) := by simp only [intKeys, List.map_map]; exact List.map_congr_left (fun _ _ => rfl)
  rw [hk] at hS
  have hms := sorted_of_perm hS hs
  refine ⟨v, rfl, ?_, hb⟩
  have e1 : ss.length = l.length := by have := hS.length_eq; simpa using this
  have e2 : (ss.mergeSort fun x y => decide (x ≤ y)) = l.map (·.1) := hms
  rw [e1, e2] at hrow
  exact hrow

theorem keys_any (mb : Nat) (w : World) : Calls Try.prog 22 #[.map (some mb)] w
    fun e w' => e = .returned (.func (.func 30) #[] #[.pointer (some ⟨w.heap.size, 0, none⟩)]) ∧ w.alloc (.cells #[.map (some mb)] 39) = w' := by
  have h := AnyZI.keys_in Try.keysA Fence.wide 5 trivial rfl (some mb) w
  change CallsIn Fence.wide 5 Try.prog 22 _ _ _ at h
  exact (callsIn_wide.1 h).mono fun e w' ⟨h1, h2⟩ => ⟨h1, h2.symm⟩

set_option maxHeartbeats 1000000 in
/-- 'w.ends()': a closure over the keys of the tries, in order. -/
theorem ends_any (B r mb bb n : Nat) (W : Wk) (w : World) (hn : n < 1000000) (hs : OrdL.SrtW W) (h : WAt B w r mb bb n W) :
    Calls Try.prog 14 #[.pointer (some ⟨r, 0, none⟩)] w fun e w' => ∃ Bs sv, e = .returned (.func (.func 27) #[] #[.pointer (some ⟨Bs, 0, none⟩)]) ∧
      Bs < w'.heap.size ∧ w.heap.size ≤ Bs ∧ w'.cell? ⟨Bs, 0, none⟩ = some sv ∧ w'.ownsRow w.heap.size 3 1 sv (W.tries.map (·.1)).length ((W.tries.map (·.1)).map (Value.int .i64)) ∧ Below w.heap.size w w' := by
  obtain ⟨dv, h⟩ := h
  have c0 : w.cell? ⟨r, 0, none⟩ = some (.map (some mb)) := cell_obj h.obj 0
  have hs' : ((W.tries.map encT).map (·.1)).Pairwise (· < ·) := by
    have : (W.tries.map encT).map (·.1) = W.tries.map (·.1) := by simp [encT]
    rw [this]; exact hs.1
  have S := Lib.hid (keys_sorted mb _ (W.tries.map encT) hs' w h.tries (by have := h.len; simp; omega) _ rfl)
  clear hs' h
  go_enter Try.func14, Try.ntmps14
  go_wp2_with fail
  refine (keys_any mb w).mono ?_
  rintro e w1 ⟨rfl, rfl⟩
  go_wp2_with fail
  refine S.out.mono ?_
  rintro e w2 ⟨sv, rfl, hrow, hb⟩
  have hv : ∃ a n c, sv = .slice a n c := by
    rcases hrow.2 with ⟨hv, _⟩ | ⟨g, cap, cur, hv, _⟩
    · exact ⟨_, _, _, hv⟩
    · exact ⟨_, _, _, hv⟩
  have HV := Lib.hid hv
  have HR := Lib.hid hrow
  have HB := Lib.hid hb
  clear hv hrow hb
  go_wp2_with fail
  refine (values_any sv w2 HV.out).mono ?_
  rintro e w3 ⟨rfl, rfl⟩
  go_wp2_with fail
  go_ret
  have hb := HB.out
  have e1 : (W.tries.map encT).map (·.1) = W.tries.map (·.1) := by simp [encT]
  have hrow := HR.out
  rw [e1] at hrow
  refine ⟨w2.heap.size, sv, rfl, by simp, by have := hb.size; simp at this; omega, cell_new _ _ _ _ 0, ?_, bl_alloc ((bl_alloc (bl0 w) _).trans (hb.mono (by simp))) _⟩
  have : (W.tries.map encT).length = (W.tries.map (·.1)).length := by simp
  rw [← this]
  have h3 : w2.ownsRow w.heap.size 3 1 sv (W.tries.map encT).length ((W.tries.map (·.1)).map (Value.int .i64)) := by
    obtain ⟨h1, h2⟩ := hrow
    refine ⟨h1, ?_⟩
    rcases h2 with h2 | ⟨g, cap, cur, hv, hg, r⟩
    · exact Or.inl h2
    · exact Or.inr ⟨g, cap, cur, hv, by simp at hg; omega, r⟩
  exact h3.alloc _
end Go.Proofs.Ytmplhchplehhlaa
