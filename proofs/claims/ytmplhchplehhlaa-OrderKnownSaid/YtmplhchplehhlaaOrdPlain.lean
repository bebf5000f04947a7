/- Plain law of chapter 24: what order.Of computes, as a Lean function on lists; told behind a crash as by itself. -/
namespace Go.Proofs.Ytmplhchplehhlaa.OrdL

structure Ev where
  kind : Int
  core : Int
  at_ : Int
  v : Int
  deriving DecidableEq, Inhabited

structure Tr where
  last : Ev
  pos : Int
  op : Bool
  deriving DecidableEq, Inhabited

/-- a sorted association list -/
def getK {β : Type} (k : Int) : List (Int × β) → Option β
  | [] => none
  | (k', x) :: r => if k' = k then some x else getK k r
def delK {β : Type} (k : Int) (l : List (Int × β)) : List (Int × β) := l.filter fun p => p.1 != k
def insK {β : Type} (x : Int × β) : List (Int × β) → List (Int × β)
  | [] => [x]
  | y :: r => if x.1 < y.1 then x :: y :: r else y :: insK x r
def putK {β : Type} (k : Int) (x : β) (l : List (Int × β)) : List (Int × β) := insK (k, x) (delK k l)

structure Wk where
  tries : List (Int × Tr)
  deeds : List (Int × Int)
  backs : List (Int × Int)

def Wk.zero : Wk := ⟨[], [], []⟩

def lineOf (a : Int) : Int := if a < 4096 then -1 else (a - 4096) / 64

def Wk.end_ (w : Wk) (c : Int) : Wk :=
  match getK c w.tries with
  | none => w
  | some t => { w with deeds := w.deeds ++ [(t.pos, c)], tries := delK c w.tries }

def Wk.goes (w : Wk) (e : Ev) : Bool :=
  match getK e.core w.tries with
  | none => false
  | some t => t.op && decide (t.last.at_ = e.at_) && (decide (e.kind = 2) || decide (e.kind = 3))

def Wk.tried (w : Wk) (i : Int) (e : Ev) : Wk :=
  let w1 := if w.goes e then w else w.end_ e.core
  { w1 with tries := putK e.core ⟨e, i, decide (e.kind = 2)⟩ w1.tries }

def Wk.event (w : Wk) (i : Int) (e : Ev) : Wk :=
  if e.kind = 1 ∨ e.kind = 2 ∨ e.kind = 3 then w.tried i e
  else if e.kind = 4 then { w.end_ e.core with deeds := (w.end_ e.core).deeds ++ [(i, e.core)] }
  else if e.kind = 6 ∨ e.kind = 10 then w.end_ e.core
  else if e.kind = 9 then (w.tries.map (·.1)).foldl Wk.end_ w
  else if e.kind = 7 then { w with backs := putK e.at_ (i + 1) w.backs }
  else w

def Wk.kept (w : Wk) (t : Tr) : Bool := decide (t.last.kind = 3) && decide (t.pos < (getK (lineOf t.last.at_) w.backs).getD 0)

def Wk.closeStep (w : Wk) (c : Int) : Wk :=
  if w.kept ((getK c w.tries).getD ⟨⟨0, 0, 0, 0⟩, 0, false⟩) then w.end_ c else w

def Wk.closed (w : Wk) : Wk := (w.tries.map (·.1)).foldl Wk.closeStep w

def sortD (l : List (Int × Int)) : List (Int × Int) := l.mergeSort (fun a b => decide (a.1 ≤ b.1))

def Wk.close (w : Wk) : List Int := (sortD w.closed.deeds).map (·.2)

def ofGo : List Ev → Int → Wk → List Int → List Int
  | [], _, w, out => out ++ w.close
  | e :: l, i, w, out => if e.kind ≠ 8 then ofGo l (i + 1) (w.event i e) out else ofGo l (i + 1) Wk.zero (out ++ w.close ++ [-1])

def of (l : List Ev) : List Int := ofGo l 0 Wk.zero []

/-! ### what is put out comes first -/
theorem ofGo_out (l : List Ev) : ∀ (i : Int) (w : Wk) (out : List Int), ofGo l i w out = out ++ ofGo l i w [] := by
  induction l with
  | nil => intro i w out; simp [ofGo]
  | cons e l ih =>
    intro i w out
    unfold ofGo
    split
    · exact ih _ _ _
    · rw [ih, ih _ _ ([] ++ _ ++ _)]; simp [List.append_assoc]

theorem ofGo_append (a b : List Ev) (e : Ev) (he : e.kind = 8) : ∀ (i : Int) (w : Wk) (out : List Int),
    ofGo (a ++ e :: b) i w out = ofGo b (i + a.length + 1) Wk.zero (ofGo a i w out ++ [-1]) := by
  induction a with
  | nil => intro i w out; simp [ofGo, he]
  | cons x a ih =>
    intro i w out
    simp only [List.cons_append, ofGo]
    split
    · rw [ih]; congr 1; simp; omega
    · rw [ih]; congr 1; simp; omega

/-! ### moved by d -/
def mvT (d : Int) (t : Tr) : Tr := { t with pos := t.pos + d }
def mvP {α β : Type} (f : α → β) (l : List (Int × α)) : List (Int × β) := l.map fun p => (p.1, f p.2)

theorem getK_mv {α β : Type} (f : α → β) (k : Int) (l : List (Int × α)) : getK k (mvP f l) = (getK k l).map f := by
  induction l with
  | nil => rfl
  | cons p l ih => obtain ⟨k', x⟩ := p; simp only [mvP, List.map_cons, getK] at *; split <;> simp_all
theorem delK_mv {α β : Type} (f : α → β) (k : Int) (l : List (Int × α)) : delK k (mvP f l) = mvP f (delK k l) := by
  simp [delK, mvP, List.filter_map]; rfl
theorem insK_mv {α β : Type} (f : α → β) (k : Int) (x : α) (l : List (Int × α)) : insK (k, f x) (mvP f l) = mvP f (insK (k, x) l) := by
  induction l with
  | nil => rfl
  | cons p l ih => simp only [mvP, List.map_cons, insK] at *; split <;> simp_all
theorem putK_mv {α β : Type} (f : α → β) (k : Int) (x : α) (l : List (Int × α)) : putK k (f x) (mvP f l) = mvP f (putK k x l) := by
  simp [putK, delK_mv, insK_mv]

def mvD (d : Int) (l : List (Int × Int)) : List (Int × Int) := l.map fun p => (p.1 + d, p.2)
def mvW (d : Int) (w : Wk) : Wk := ⟨mvP (mvT d) w.tries, mvD d w.deeds, mvP (· + d) w.backs⟩

theorem end_mv (d c : Int) (w : Wk) : (mvW d w).end_ c = mvW d (w.end_ c) := by
  unfold Wk.end_ mvW
  simp only [getK_mv]
  cases h : getK c w.tries with
  | none => simp
  | some t => simp [delK_mv, mvD, mvT]
theorem goes_mv (d : Int) (w : Wk) (e : Ev) : (mvW d w).goes e = w.goes e := by
  unfold Wk.goes mvW
  simp only [getK_mv]
  cases getK e.core w.tries <;> simp [mvT]
theorem tried_mv (d i : Int) (w : Wk) (e : Ev) : (mvW d w).tried (i + d) e = mvW d (w.tried i e) := by
  unfold Wk.tried
  rw [goes_mv, end_mv]
  have : ∀ u : Wk, ({ mvW d u with tries := putK e.core ⟨e, i + d, decide (e.kind = 2)⟩ (mvW d u).tries } : Wk) = mvW d { u with tries := putK e.core ⟨e, i, decide (e.kind = 2)⟩ u.tries } := by
    intro u
    simp only [mvW]
    rw [← putK_mv]; rfl
  split <;> exact this _
theorem foldl_end_mv (d : Int) (ks : List Int) : ∀ w : Wk, ks.foldl Wk.end_ (mvW d w) = mvW d (ks.foldl Wk.end_ w) := by
  induction ks with
  | nil => intro w; rfl
  | cons k ks ih => intro w; simp only [List.foldl_cons]; rw [end_mv, ih]
theorem keys_mv (d : Int) (w : Wk) : (mvW d w).tries.map (·.1) = w.tries.map (·.1) := by simp [mvW, mvP]
theorem event_mv (d i : Int) (w : Wk) (e : Ev) : (mvW d w).event (i + d) e = mvW d (w.event i e) := by
  unfold Wk.event
  split
  · exact tried_mv d i w e
  split
  · rw [end_mv]; simp [mvW, mvD]
  split
  · exact end_mv d _ w
  split
  · rw [keys_mv]; exact foldl_end_mv d _ w
  split
  · have : putK e.at_ (i + d + 1) (mvP (fun x => x + d) w.backs) = mvP (fun x => x + d) (putK e.at_ (i + 1) w.backs) := by
      rw [← putK_mv]; congr 1; omega
    simp only [mvW]; rw [this]
  · rfl

/-- the positions are 0 or more: so that a line that was never written back is before all. -/
def Pos (w : Wk) : Prop := (∀ k t, (k, t) ∈ w.tries → 0 ≤ t.pos) ∧ (∀ p ∈ w.deeds, 0 ≤ p.1) ∧ (∀ k x, (k, x) ∈ w.backs → 0 ≤ x)

theorem getK_mem {β : Type} {k : Int} {l : List (Int × β)} {x : β} (h : getK k l = some x) : (k, x) ∈ l := by
  induction l with
  | nil => cases h
  | cons p l ih =>
    obtain ⟨k', y⟩ := p
    simp only [getK] at h
    split at h
    · rename_i e; cases h; subst e; simp
    · exact List.mem_cons_of_mem _ (ih h)
theorem mem_delK {β : Type} {k : Int} {l : List (Int × β)} {p : Int × β} (h : p ∈ delK k l) : p ∈ l := (List.mem_filter.1 h).1
theorem mem_insK {β : Type} {x p : Int × β} {l : List (Int × β)} : p ∈ insK x l ↔ p = x ∨ p ∈ l := by
  induction l with
  | nil => simp [insK]
  | cons y l ih =>
    unfold insK
    split
    · simp
    · simp only [List.mem_cons, ih]; constructor <;> (intro h; rcases h with h | h | h <;> simp [h])
theorem mem_putK {β : Type} {k : Int} {x : β} {l : List (Int × β)} {p : Int × β} (h : p ∈ putK k x l) : p = (k, x) ∨ p ∈ l := by
  rcases mem_insK.1 h with h | h
  · exact .inl h
  · exact .inr (mem_delK h)

theorem Pos.end_ {w : Wk} (h : Pos w) (c : Int) : Pos (w.end_ c) := by
  unfold Wk.end_
  split
  · exact h
  · rename_i t ht
    refine ⟨fun k t' hm => h.1 k t' (mem_delK hm), fun p hp => ?_, h.2.2⟩
    rcases List.mem_append.1 hp with hp | hp
    · exact h.2.1 p hp
    · simp at hp; subst hp; exact h.1 c t (getK_mem ht)
theorem Pos.foldl {f : Wk → Int → Wk} (hf : ∀ w c, Pos w → Pos (f w c)) (ks : List Int) : ∀ {w : Wk}, Pos w → Pos (ks.foldl f w) := by
  induction ks with
  | nil => exact fun h => h
  | cons k ks ih => exact fun h => ih (hf _ _ h)
theorem Pos.tried {w : Wk} (h : Pos w) {i : Int} (hi : 0 ≤ i) (e : Ev) : Pos (w.tried i e) := by
  have : ∀ u : Wk, Pos u → Pos { u with tries := putK e.core ⟨e, i, decide (e.kind = 2)⟩ u.tries } := by
    intro u hu
    refine ⟨fun k t hm => ?_, hu.2.1, hu.2.2⟩
    rcases mem_putK hm with hm | hm
    · cases hm; exact hi
    · exact hu.1 k t hm
  unfold Wk.tried
  simp only
  split
  · exact this _ h
  · exact this _ (h.end_ _)
theorem Pos.event {w : Wk} (h : Pos w) {i : Int} (hi : 0 ≤ i) (e : Ev) : Pos (w.event i e) := by
  unfold Wk.event
  split
  · exact h.tried hi e
  split
  · have := h.end_ e.core
    exact ⟨this.1, fun p hp => by rcases List.mem_append.1 hp with hp | hp; exact this.2.1 p hp; simp at hp; subst hp; exact hi, this.2.2⟩
  split
  · exact h.end_ _
  split
  · exact Pos.foldl (fun w c hw => hw.end_ c) _ h
  split
  · exact ⟨h.1, h.2.1, fun k x hm => by rcases mem_putK hm with hm | hm; cases hm; omega; exact h.2.2 k x hm⟩
  · exact h
theorem Pos.zero : Pos Wk.zero := by simp [Pos, Wk.zero]

theorem kept_mv {d : Int} (hd : 0 ≤ d) {w : Wk} (_h : Pos w) {t : Tr} (ht : 0 ≤ t.pos) : (mvW d w).kept (mvT d t) = w.kept t := by
  unfold Wk.kept mvW
  simp only [getK_mv, mvT]
  cases hg : getK (lineOf t.last.at_) w.backs with
  | none => simp only [Option.map_none, Option.getD_none]; rw [decide_eq_false (show ¬ t.pos + d < 0 by omega), decide_eq_false (show ¬ t.pos < 0 by omega)]; rfl
  | some x => simp only [Option.map_some, Option.getD_some]; congr 1; rw [Bool.eq_iff_iff]; simp
theorem closeStep_mv {d : Int} (hd : 0 ≤ d) {w : Wk} (h : Pos w) {c : Int} (hc : ∃ t, getK c w.tries = some t) : (mvW d w).closeStep c = mvW d (w.closeStep c) := by
  obtain ⟨t, ht⟩ := hc
  unfold Wk.closeStep
  have e : getK c (mvW d w).tries = some (mvT d t) := by simp [mvW, getK_mv, ht]
  rw [e, ht]
  simp only [Option.getD_some, kept_mv hd h (h.1 c t (getK_mem ht)), end_mv]
  split <;> rfl
theorem Pos.closeStep {w : Wk} (h : Pos w) (c : Int) : Pos (w.closeStep c) := by
  unfold Wk.closeStep
  split
  · exact h.end_ c
  · exact h

theorem getK_isSome {β : Type} {k : Int} {l : List (Int × β)} (h : k ∈ l.map (·.1)) : ∃ t, getK k l = some t := by
  induction l with
  | nil => simp at h
  | cons p l ih =>
    obtain ⟨k', y⟩ := p
    simp only [getK]
    split
    · exact ⟨_, rfl⟩
    · rename_i hne
      simp only [List.map_cons, List.mem_cons] at h
      rcases h with h | h
      · exact absurd h.symm hne
      · exact ih h
theorem getK_delK_ne {β : Type} {k c : Int} (hne : k ≠ c) (l : List (Int × β)) : getK k (delK c l) = getK k l := by
  induction l with
  | nil => rfl
  | cons p l ih =>
    obtain ⟨k', y⟩ := p
    unfold delK at *
    simp only [List.filter_cons]
    split
    · simp only [getK]; split
      · rfl
      · exact ih
    · rename_i hp
      simp at hp
      subst hp
      simp only [getK]
      rw [if_neg (fun e => hne e.symm)]; exact ih
theorem getK_end_ne {w : Wk} {k c : Int} (hne : k ≠ c) : getK k (w.end_ c).tries = getK k w.tries := by
  unfold Wk.end_
  split
  · rfl
  · exact getK_delK_ne hne _
theorem getK_closeStep_ne {w : Wk} {k c : Int} (hne : k ≠ c) : getK k (w.closeStep c).tries = getK k w.tries := by
  unfold Wk.closeStep
  split
  · exact getK_end_ne hne
  · rfl

theorem foldl_close_mv {d : Int} (hd : 0 ≤ d) (ks : List Int) : ∀ {w : Wk}, Pos w → ks.Nodup → (∀ k ∈ ks, ∃ t, getK k w.tries = some t) → ks.foldl Wk.closeStep (mvW d w) = mvW d (ks.foldl Wk.closeStep w) := by
  induction ks with
  | nil => intro w _ _ _; rfl
  | cons k ks ih =>
    intro w h hn hk
    simp only [List.foldl_cons]
    rw [closeStep_mv hd h (hk k (by simp))]
    obtain ⟨hn1, hn2⟩ := List.nodup_cons.1 hn
    refine ih (h.closeStep k) hn2 (fun k' hk' => ?_)
    rw [getK_closeStep_ne (fun e => hn1 (by rw [← e]; exact hk'))]
    exact hk k' (by simp [hk'])

/-! ### the keys stand in order, no one twice -/
def Srt {β : Type} (l : List (Int × β)) : Prop := (l.map (·.1)).Pairwise (· < ·)
theorem Srt.nodup {β : Type} {l : List (Int × β)} (h : Srt l) : (l.map (·.1)).Nodup := List.Pairwise.imp (fun h => Int.ne_of_lt h) h
theorem Srt.delK {β : Type} {l : List (Int × β)} (h : Srt l) (k : Int) : Srt (delK k l) := by
  unfold Srt OrdL.delK at *
  rw [List.pairwise_map] at *
  exact h.filter _
theorem Srt.insK {β : Type} {x : Int × β} {l : List (Int × β)} (h : Srt l) (hx : ∀ p ∈ l, p.1 ≠ x.1) : Srt (insK x l) := by
  unfold Srt at *
  rw [List.pairwise_map] at *
  induction l with
  | nil => simp [OrdL.insK]
  | cons y l ih =>
    obtain ⟨h1, h2⟩ := List.pairwise_cons.1 h
    unfold OrdL.insK
    split
    · rename_i hlt
      refine List.pairwise_cons.2 ⟨fun q hq => ?_, h⟩
      rcases List.mem_cons.1 hq with rfl | hq
      · exact hlt
      · have := h1 q hq; omega
    · rename_i hlt
      have hne := hx y (by simp)
      refine List.pairwise_cons.2 ⟨fun q hq => ?_, ih h2 (fun p hp => hx p (by simp [hp]))⟩
      rcases mem_insK.1 hq with rfl | hq
      · omega
      · exact h1 q hq
theorem Srt.putK {β : Type} {l : List (Int × β)} (h : Srt l) (k : Int) (x : β) : Srt (putK k x l) :=
  (h.delK k).insK (fun p hp => by have := (List.mem_filter.1 hp).2; simpa using this)

def SrtW (w : Wk) : Prop := Srt w.tries ∧ Srt w.backs
theorem SrtW.end_ {w : Wk} (h : SrtW w) (c : Int) : SrtW (w.end_ c) := by
  unfold Wk.end_
  split
  · exact h
  · exact ⟨h.1.delK c, h.2⟩
theorem SrtW.foldl_end {w : Wk} (h : SrtW w) (ks : List Int) : SrtW (ks.foldl Wk.end_ w) := by
  induction ks generalizing w with
  | nil => exact h
  | cons k ks ih => exact ih (h.end_ k)
theorem SrtW.tried {w : Wk} (h : SrtW w) (i : Int) (e : Ev) : SrtW (w.tried i e) := by
  unfold Wk.tried
  simp only
  split
  · exact ⟨h.1.putK _ _, h.2⟩
  · exact ⟨(h.end_ _).1.putK _ _, (h.end_ _).2⟩
theorem SrtW.event {w : Wk} (h : SrtW w) (i : Int) (e : Ev) : SrtW (w.event i e) := by
  unfold Wk.event
  split
  · exact h.tried i e
  split
  · exact h.end_ _
  split
  · exact h.end_ _
  split
  · exact h.foldl_end _
  split
  · exact ⟨h.1, h.2.putK _ _⟩
  · exact h
theorem SrtW.zero : SrtW Wk.zero := by simp [SrtW, Srt, Wk.zero]

theorem sortD_mv (d : Int) (l : List (Int × Int)) : sortD (mvD d l) = mvD d (sortD l) := by
  unfold sortD mvD
  rw [List.map_mergeSort]
  intro a _ b _
  simp
theorem close_mv {d : Int} (hd : 0 ≤ d) {w : Wk} (h : Pos w) (hs : SrtW w) : (mvW d w).close = w.close := by
  unfold Wk.close Wk.closed
  rw [keys_mv, foldl_close_mv hd _ h hs.1.nodup (fun k hk => getK_isSome hk)]
  simp only [mvW]
  rw [sortD_mv]
  simp [mvD]

theorem ofGo_mv {d : Int} (hd : 0 ≤ d) (l : List Ev) : ∀ {i : Int} {w : Wk} (out : List Int), 0 ≤ i → Pos w → SrtW w → ofGo l (i + d) (mvW d w) out = ofGo l i w out := by
  induction l with
  | nil => intro i w out _ h hs; simp [ofGo, close_mv hd h hs]
  | cons e l ih =>
    intro i w out hi h hs
    simp only [ofGo]
    rw [show i + d + 1 = (i + 1) + d by omega, event_mv, close_mv hd h hs]
    split
    · exact ih _ (by omega) (h.event hi e) (hs.event i e)
    · exact ih (w := Wk.zero) _ (by omega) Pos.zero SrtW.zero

theorem of_crash (a b : List Ev) (e : Ev) (he : e.kind = 8) : of (a ++ e :: b) = of a ++ [-1] ++ of b := by
  unfold of
  rw [ofGo_append a b e he, ofGo_out]
  congr 1
  have := ofGo_mv (d := (0 : Int) + a.length + 1) (by omega) b (i := 0) (w := Wk.zero) [] (by omega) Pos.zero SrtW.zero
  simpa [mvW, mvP, mvD, Wk.zero] using this

/-! ### outs -/
theorem ofGo_outs (cs : List Int) (f : Int → Ev) (hf : ∀ c, (f c).kind = 4 ∧ (f c).core = c) : ∀ (i : Int) (ds : List (Int × Int)), ds.Pairwise (fun a b => a.1 ≤ b.1) → (∀ p ∈ ds, p.1 < i) →
    ofGo (cs.map f) i ⟨[], ds, []⟩ [] = ds.map (·.2) ++ cs := by
  induction cs with
  | nil =>
    intro i ds hp _
    have : sortD ds = ds := List.mergeSort_of_pairwise (hp.imp (fun h => by simpa using h))
    simp [ofGo, Wk.close, Wk.closed, this]
  | cons c cs ih =>
    intro i ds hp hlt
    simp only [List.map_cons, ofGo]
    have e1 : (⟨[], ds, []⟩ : Wk).event i (f c) = ⟨[], ds ++ [(i, c)], []⟩ := by
      simp [Wk.event, (hf c).1, (hf c).2, Wk.end_, getK]
    rw [if_pos (by rw [(hf c).1]; decide), e1, ih]
    · simp
    · rw [List.pairwise_append]
      exact ⟨hp, by simp, fun a ha b hb => by simp at hb; subst hb; have := hlt a ha; omega⟩
    · intro p hp'
      rcases List.mem_append.1 hp' with h | h
      · have := hlt p h; omega
      · simp at h; subst h; simp; omega
theorem of_outs (cs : List Int) (f : Int → Ev) (hf : ∀ c, (f c).kind = 4 ∧ (f c).core = c) : of (cs.map f) = cs := by
  have := ofGo_outs cs f hf 0 [] (by simp) (by simp)
  simpa [of, Wk.zero] using this

end Go.Proofs.Ytmplhchplehhlaa.OrdL
