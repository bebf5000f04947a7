/- Plain law of chapter 24, more: the places of what was done are each one's own, so that the order in which they are told is one. -/
import Derived.Test.YtmplhchplehhlaaOrdPlain
namespace Go.Proofs.Ytmplhchplehhlaa.OrdL

/-- the places of the deeds and tries: each its own, all ahead of i -/
def places (w : Wk) : List Int := w.deeds.map (·.1) ++ w.tries.map (·.2.pos)
def Fit64 (x : Int) : Prop := -9223372036854775808 ≤ x ∧ x ≤ 9223372036854775807
structure Good (w : Wk) (i : Int) : Prop where
  srt : SrtW w
  nod : (places w).Nodup
  lt : ∀ p ∈ places w, p < i
  fit : ∀ k t, (k, t) ∈ w.tries → Fit64 k ∧ Fit64 t.last.at_

theorem Good.zero : Good Wk.zero 0 := ⟨SrtW.zero, by simp [places, Wk.zero], by simp [places, Wk.zero], by simp [Wk.zero]⟩
theorem Good.mono {w : Wk} {i j : Int} (h : Good w i) (hij : i ≤ j) : Good w j := ⟨h.srt, h.nod, fun p hp => by have := h.lt p hp; omega, h.fit⟩

theorem nodup_pos {l : List (Int × Tr)} (h : (l.map (·.2.pos)).Nodup) {p q : Int × Tr} (hp : p ∈ l) (hq : q ∈ l) (e : p.2.pos = q.2.pos) : p = q := by
  induction l with
  | nil => cases hp
  | cons a l ih =>
    simp only [List.map_cons, List.nodup_cons, List.mem_map] at h
    rcases List.mem_cons.1 hp with e1 | hp1 <;> rcases List.mem_cons.1 hq with e2 | hq1
    · rw [e1, e2]
    · exact absurd ⟨q, hq1, by rw [← e1]; exact e.symm⟩ h.1
    · exact absurd ⟨p, hp1, by rw [← e2]; exact e⟩ h.1
    · exact ih h.2 hp1 hq1

theorem Good.end_ {w : Wk} {i : Int} (h : Good w i) (c : Int) : Good (w.end_ c) i := by
  unfold Wk.end_
  split
  · exact h
  · rename_i t ht
    have hm := getK_mem ht
    obtain ⟨n1, n2, n3⟩ := List.nodup_append.1 h.nod
    refine ⟨?_, ?_, ?_, fun k t' hk => h.fit k t' (mem_delK hk)⟩
    · have := h.srt.end_ c
      unfold Wk.end_ at this; rw [ht] at this; exact this
    · unfold places
      simp only [List.map_append, List.map_cons, List.map_nil]
      rw [List.nodup_append]
      refine ⟨?_, ?_, ?_⟩
      · rw [List.nodup_append]
        refine ⟨n1, by simp, fun a ha b hb => ?_⟩
        simp at hb; subst hb
        exact n3 a ha t.pos (List.mem_map.2 ⟨_, hm, rfl⟩)
      · exact n2.sublist (List.Sublist.map _ List.filter_sublist)
      · intro a ha b hb
        obtain ⟨q, hq, rfl⟩ := List.mem_map.1 hb
        rcases List.mem_append.1 ha with ha | ha
        · exact n3 a ha _ (List.mem_map.2 ⟨q, mem_delK hq, rfl⟩)
        · simp at ha; subst ha
          intro e
          have := nodup_pos n2 hm (mem_delK hq) e
          have h2 := (List.mem_filter.1 hq).2
          rw [← this] at h2
          simp at h2
    · intro p hp
      unfold places at hp
      simp only [List.map_append, List.map_cons, List.map_nil, List.mem_append] at hp
      rcases hp with (hp | hp) | hp
      · exact h.lt p (List.mem_append.2 (.inl hp))
      · simp at hp; subst hp; exact h.lt _ (List.mem_append.2 (.inr (List.mem_map.2 ⟨_, hm, rfl⟩)))
      · obtain ⟨q, hq, rfl⟩ := List.mem_map.1 hp
        exact h.lt _ (List.mem_append.2 (.inr (List.mem_map.2 ⟨q, mem_delK hq, rfl⟩)))
theorem Good.foldl_end {w : Wk} {i : Int} (h : Good w i) (ks : List Int) : Good (ks.foldl Wk.end_ w) i := by
  induction ks generalizing w with
  | nil => exact h
  | cons k ks ih => exact ih (h.end_ k)

theorem perm_insK {β : Type} (x : Int × β) (l : List (Int × β)) : (insK x l).Perm (x :: l) := by
  induction l with
  | nil => exact List.Perm.refl _
  | cons y l ih =>
    unfold insK
    split
    · exact List.Perm.refl _
    · exact (ih.cons y).trans (List.Perm.swap _ _ _)

theorem Good.put {w : Wk} {i : Int} (h : Good w i) (e : Ev) (o : Bool) (he : Fit64 e.core ∧ Fit64 e.at_) : Good { w with tries := putK e.core ⟨e, i, o⟩ w.tries } (i + 1) := by
  obtain ⟨n1, n2, n3⟩ := List.nodup_append.1 h.nod
  have hp := perm_insK (e.core, (⟨e, i, o⟩ : Tr)) (delK e.core w.tries)
  refine ⟨⟨h.srt.1.putK _ _, h.srt.2⟩, ?_, ?_, ?_⟩
  · unfold places
    rw [List.nodup_append]
    refine ⟨n1, ?_, ?_⟩
    · refine ((hp.map _).nodup_iff).2 ?_
      simp only [List.map_cons, List.nodup_cons]
      refine ⟨fun hm => ?_, n2.sublist (List.Sublist.map _ List.filter_sublist)⟩
      obtain ⟨q, hq, hqe⟩ := List.mem_map.1 hm
      have := h.lt q.2.pos (List.mem_append.2 (.inr (List.mem_map.2 ⟨q, mem_delK hq, rfl⟩)))
      omega
    · intro a ha b hb
      obtain ⟨q, hq, rfl⟩ := List.mem_map.1 hb
      rcases List.mem_cons.1 ((hp.mem_iff).1 hq) with rfl | hq
      · have := h.lt a (List.mem_append.2 (.inl ha))
        dsimp only; omega
      · exact n3 a ha _ (List.mem_map.2 ⟨q, mem_delK hq, rfl⟩)
  · intro p hp'
    rcases List.mem_append.1 hp' with hp' | hp'
    · have := h.lt p (List.mem_append.2 (.inl hp')); omega
    · obtain ⟨q, hq, rfl⟩ := List.mem_map.1 hp'
      rcases List.mem_cons.1 ((hp.mem_iff).1 hq) with rfl | hq
      · dsimp only; omega
      · have := h.lt q.2.pos (List.mem_append.2 (.inr (List.mem_map.2 ⟨q, mem_delK hq, rfl⟩))); omega
  · intro k t hk
    rcases List.mem_cons.1 ((hp.mem_iff).1 hk) with hk | hk
    · cases hk; exact he
    · exact h.fit k t (mem_delK hk)

theorem Good.event {w : Wk} {i : Int} (h : Good w i) (e : Ev) (he : Fit64 e.core ∧ Fit64 e.at_) : Good (w.event i e) (i + 1) := by
  unfold Wk.event
  split
  · unfold Wk.tried
    simp only
    split
    · exact h.put e _ he
    · exact (h.end_ _).put e _ he
  split
  · have g := h.end_ e.core
    obtain ⟨n1, n2, n3⟩ := List.nodup_append.1 g.nod
    refine ⟨g.srt, ?_, ?_, g.fit⟩
    · unfold places
      simp only [List.map_append, List.map_cons, List.map_nil]
      rw [List.nodup_append]
      refine ⟨?_, n2, ?_⟩
      · rw [List.nodup_append]
        refine ⟨n1, by simp, fun a ha b hb => ?_⟩
        simp at hb; subst hb
        have := g.lt a (List.mem_append.2 (.inl ha)); omega
      · intro a ha b hb
        rcases List.mem_append.1 ha with ha | ha
        · exact n3 a ha b hb
        · simp at ha; subst ha
          have := g.lt b (List.mem_append.2 (.inr hb)); omega
    · intro p hp
      unfold places at hp
      simp only [List.map_append, List.map_cons, List.map_nil, List.mem_append] at hp
      rcases hp with (hp | hp) | hp
      · have := g.lt p (List.mem_append.2 (.inl hp)); omega
      · simp at hp; subst hp; omega
      · have := g.lt p (List.mem_append.2 (.inr hp)); omega
  split
  · exact (h.end_ _).mono (by omega)
  split
  · exact (h.foldl_end _).mono (by omega)
  split
  · exact ⟨⟨h.srt.1, h.srt.2.putK _ _⟩, h.nod, fun p hp => by have := h.lt p hp; omega, h.fit⟩
  · exact h.mono (by omega)

theorem Good.closeStep {w : Wk} {i : Int} (h : Good w i) (c : Int) : Good (w.closeStep c) i := by
  unfold Wk.closeStep
  split
  · exact h.end_ c
  · exact h
theorem Good.foldl_close {w : Wk} {i : Int} (h : Good w i) (ks : List Int) : Good (ks.foldl Wk.closeStep w) i := by
  induction ks generalizing w with
  | nil => exact h
  | cons k ks ih => exact ih (h.closeStep k)

/-- whatever stands in order and is the deeds in another order is the deeds in order -/
theorem sortD_unique {l l' : List (Int × Int)} (hn : (l.map (·.1)).Nodup) (hp : l'.Perm l) (hs : l'.Pairwise fun a b => ¬ b.1 < a.1) : sortD l = l' := by
  have h1 : (sortD l).Perm l' := (List.mergeSort_perm _ _).trans hp.symm
  have h2 : (sortD l).Pairwise (fun a b => decide (a.1 ≤ b.1) = true) := List.pairwise_mergeSort (fun a b c => by simp; omega) (fun a b => by simp; omega) _
  refine List.Perm.eq_of_pairwise (le := fun a b => decide (a.1 ≤ b.1) = true) ?_ h2 (hs.imp (fun h => by simp; omega)) h1
  intro a b ha hb h1' h2'
  simp at h1' h2'
  have e : a.1 = b.1 := by omega
  have ha' : a ∈ l := (List.mergeSort_perm l _).mem_iff.1 ha
  have hb' : b ∈ l := hp.mem_iff.1 hb
  clear ha hb h1 h2 hs hp
  induction l with
  | nil => cases ha'
  | cons x l ih =>
    simp only [List.map_cons, List.nodup_cons, List.mem_map] at hn
    rcases List.mem_cons.1 ha' with e1 | ha <;> rcases List.mem_cons.1 hb' with e2 | hb
    · rw [e1, e2]
    · exact absurd ⟨b, hb, by rw [← e1]; exact e.symm⟩ hn.1
    · exact absurd ⟨a, ha, by rw [← e2]; exact e⟩ hn.1
    · exact ih hn.2 ha hb
end Go.Proofs.Ytmplhchplehhlaa.OrdL
