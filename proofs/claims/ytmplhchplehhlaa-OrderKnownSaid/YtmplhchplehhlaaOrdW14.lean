/- Walks over chapter 24: the row OrderCrashes. -/
import Derived.Test.YtmplhchplehhlaaOrdW13
namespace Go.Proofs.Ytmplhchplehhlaa
open Go.RowKit Go.Maps Go.Shelf
open OrdL (Ev Tr Wk)

/-! ### how many deeds there are -/
def szW (w : Wk) : Nat := w.tries.length + w.deeds.length
theorem sz_end (w : Wk) (c : Int) : szW (w.end_ c) ≤ szW w := by
  unfold Wk.end_
  cases h : OrdL.getK c w.tries with
  | none => exact Nat.le_refl _
  | some t => have := getK_len h; simp [szW]; omega
theorem sz_fold (ks : List Int) : ∀ w : Wk, szW (ks.foldl Wk.end_ w) ≤ szW w := by
  induction ks with
  | nil => intro w; exact Nat.le_refl _
  | cons k ks ih => intro w; exact Nat.le_trans (ih _) (sz_end w k)
theorem sz_event (w : Wk) (i : Int) (e : Ev) : szW (w.event i e) ≤ szW w + 1 := by
  unfold Wk.event
  split
  · unfold Wk.tried
    have h1 := putK_len e.core (⟨e, i, decide (e.kind = 2)⟩ : Tr) (if w.goes e = true then w else w.end_ e.core).tries
    have h2 := delK_len e.core (if w.goes e = true then w else w.end_ e.core).tries
    have h3 := sz_end w e.core
    simp only [szW] at *
    split <;> simp_all <;> omega
  · split
    · have := sz_end w e.core
      simp only [szW] at *
      simp
      omega
    · split
      · exact Nat.le_succ_of_le (sz_end w e.core)
      · split
        · exact Nat.le_succ_of_le (sz_fold _ w)
        · split
          · simp [szW]
          · exact Nat.le_succ _
theorem sz_close (w : Wk) : w.close.length ≤ szW w := by
  have h : ∀ (ks : List Int) (w : Wk), szW (ks.foldl Wk.closeStep w) ≤ szW w := by
    intro ks
    induction ks with
    | nil => intro w; exact Nat.le_refl _
    | cons k ks ih =>
      intro w
      refine Nat.le_trans (ih _) ?_
      unfold Wk.closeStep
      split
      · exact sz_end w k
      · exact Nat.le_refl _
  have h1 := h (w.tries.map (·.1)) w
  simp only [Wk.close, OrdL.sortD, List.length_map, List.length_mergeSort]
  have h2 : w.closed.deeds.length ≤ szW w.closed := by simp [szW]
  exact Nat.le_trans h2 h1
theorem of_len (l : List Ev) : ∀ (i : Int) (w : Wk) (out : List Int), (OrdL.ofGo l i w out).length ≤ out.length + szW w + l.length := by
  induction l with
  | nil => intro i w out; have := sz_close w; simp [OrdL.ofGo]; omega
  | cons e l ih =>
    intro i w out
    unfold OrdL.ofGo
    split
    · have := ih (i + 1) (w.event i e) out
      have := sz_event w i e
      simp; omega
    · have := ih (i + 1) Wk.zero (out ++ w.close ++ [-1])
      have := sz_close w
      have h0 : szW Wk.zero = 0 := rfl
      simp at *; omega
theorem of_length (l : List Ev) : (OrdL.of l).length ≤ l.length := by
  have := of_len l 0 Wk.zero []
  have h0 : szW Wk.zero = 0 := rfl
  simpa [h0, OrdL.of] using this

/-! ### an argument that is a slice of events -/
def ArgEv (w : World) (a : Option Addr) (cap : Nat) (l : List Ev) : Prop :=
  (a = none ∧ cap = 0 ∧ l = []) ∨ ∃ x : Addr, a = some x ∧ (l ≠ [] → x.spot = none ∧ x.block < w.heap.size ∧ EvsAt w x.block x.off l)

theorem EvsAt.below {w w' : World} {B b off : Nat} {l : List Ev} (h : EvsAt w b off l) (hb : Below B w w') (hlt : b < B) : EvsAt w' b off l := by
  intro j ev hj
  obtain ⟨h0, h1, h2, h3⟩ := h j ev hj
  exact ⟨(hb.cell (p := ⟨b, off + j * 4, none⟩) hlt).trans h0, (hb.cell (p := ⟨b, off + j * 4 + 1, none⟩) hlt).trans h1, (hb.cell (p := ⟨b, off + j * 4 + 2, none⟩) hlt).trans h2, (hb.cell (p := ⟨b, off + j * 4 + 3, none⟩) hlt).trans h3⟩
theorem ArgEv.below {w w' : World} {a : Option Addr} {cap : Nat} {l : List Ev} (h : ArgEv w a cap l) (hb : Below w.heap.size w w') : ArgEv w' a cap l := by
  rcases h with h | ⟨x, rfl, h⟩
  · exact Or.inl h
  · refine Or.inr ⟨x, rfl, fun hl => ?_⟩
    obtain ⟨h1, h2, h3⟩ := h hl
    exact ⟨h1, Nat.lt_of_lt_of_le h2 hb.size, h3.below hb h2⟩

theorem of_arg (a : Option Addr) (cap : Nat) (l : List Ev) (w : World) (hl : l.length ≤ 1000) (hf : ∀ e ∈ l, OrdL.Fit64 e.core ∧ OrdL.Fit64 e.at_) (h : ArgEv w a cap l) :
    Calls Try.prog 7 #[.slice a l.length cap] w fun e w' => ∃ v', e = .returned v' ∧ w'.ownsRow w.heap.size 3 1 v' (OrdL.of l).length ((OrdL.of l).map (Value.int .i64)) ∧ Below w.heap.size w w' := by
  have hz : OrdL.of [] = [] := OrdL.of_outs [] (fun c => ⟨4, c, 0, 0⟩) (fun _ => ⟨rfl, rfl⟩)
  by_cases h0 : l = []
  · subst h0
    rw [hz]
    exact of_empty a cap w
  · rcases h with ⟨_, _, h⟩ | ⟨x, rfl, h⟩
    · exact absurd h h0
    · obtain ⟨h1, h2, h3⟩ := h h0
      obtain ⟨b, off, sp⟩ := x
      simp only at h1
      subst h1
      exact of_any b off cap l w hl hf h3 h2

theorem ArgEv.news {w : World} {a : Option Addr} {cap : Nat} {l : List Ev} (h : ArgEv w a cap l) : (a = none ∧ cap = 0 ∧ l = []) ∨ ∃ x, a = some x ∧ ∀ j u, (l.flatMap evV)[j]? = some u → w.cell? (x.add j) = some u := by
  rcases h with h | ⟨x, rfl, h⟩
  · exact Or.inl h
  · refine Or.inr ⟨x, rfl, fun j u hu => ?_⟩
    have hj := (List.getElem?_eq_some_iff.1 hu).1
    rw [flat_len] at hj
    have hq : j / 4 < l.length := by omega
    obtain ⟨h1, _, h3⟩ := h (fun e => by rw [e] at hq; simp at hq)
    obtain ⟨b, off, sp⟩ := x
    simp only at h1
    subst h1
    have hadd : (⟨b, off, none⟩ : Addr).add j = ⟨b, off + j, none⟩ := by unfold Addr.add; split <;> simp_all
    rw [hadd]
    have hev : l[j / 4]? = some l[j / 4] := List.getElem?_eq_getElem hq
    have hf := flat_evs l (j / 4) (j % 4) (by omega) _ hev
    have ej : j / 4 * 4 + j % 4 = j := by omega
    rw [ej, hu] at hf
    obtain ⟨c0, c1, c2, c3⟩ := h3 _ _ hev
    have e0 : off + j = off + j / 4 * 4 + j % 4 := by omega
    rw [e0]
    have hm : j % 4 = 0 ∨ j % 4 = 1 ∨ j % 4 = 2 ∨ j % 4 = 3 := by omega
    rcases hm with hm | hm | hm | hm <;> rw [hm] at hf ⊢ <;> simp only [evV, List.getElem?_cons_zero, List.getElem?_cons_succ, Option.some.injEq] at hf <;> subst hf
    · exact c0
    · exact c1
    · exact c2
    · exact c3

theorem wpList_append_evs {P : Program} {w : World} {ops : Array Oper} {rest : List Oper} {o : Oper} {a : Act} {Q : Exit → Act → World → Prop} (hgd : o.guard = none) (s x : Operand) (t : TypeId)
    (ho : o.op = .call { callee := .builtin .append, args := #[s, x], argTypes := #[t, t] })
    (base : Nat) (e : TypeId) (i : TypeInfo) (z : Value) (bytes : Nat) (ht : P.underlying t = some (.slice e)) (hi : P.info? e = some i) (hz : i.zero = some z) (hsize : i.size = 4) (hby : i.bytes = bytes) (hzs : z.cells.size = 4)
    (v : Value) (n : Nat) (xs : List Value) (hs : a.eval s = v) (hown : w.ownsRow base e 4 v n xs)
    (a2 : Option Addr) (cap : Nat) (l : List Ev) (hx : a.eval x = .slice a2 l.length cap) (harg : ArgEv w a2 cap l)
    (h63 : n + l.length ≤ maxLen) (hbytes : (n + l.length) * bytes ≤ 140737488355328) (hbase : base ≤ w.heap.size)
    (h : ∀ v' w', w'.ownsRow base e 4 v' (n + l.length) (xs ++ l.flatMap evV) → w.grownBy w' v.ownBlock → wpList P ops Q rest (a.put o.dst v') w') : wpList P ops Q (o :: rest) a w := by
  rcases harg.news with ⟨rfl, rfl, rfl⟩ | ⟨x2, rfl, hn⟩
  · exact wpList_append_own_none hgd s x t ho base e i 4 ht hi v n xs hs hown hx (h v w (by simpa using hown) ⟨rfl, rfl, rfl, Nat.le_refl _, fun _ _ _ => rfl⟩)
  · exact wpList_append_own w hgd s x t ho base e i z 4 bytes ht hi hz hsize hby hzs (by decide) v n xs hs hown x2 l.length cap (l.flatMap evV) hx (flat_len l) hn (fun u hu => by
      obtain ⟨ev, _, hm⟩ := List.mem_flatMap.1 hu
      simp only [evV, List.mem_cons, List.not_mem_nil, or_false] at hm
      rcases hm with rfl | rfl | rfl | rfl <;> rfl) h63 hbytes hbase (fun v' w' r1 r2 _ => h v' w' r1 r2)

/-- an older row stays while a younger one grows -/
theorem row_grown3 {w w' : World} {b1 B : Nat} {e1 e2 : TypeId} {s1 s2 n1 n2 : Nat} {v1 v2 : Value} {x1 x2 : List Value} (h1 : w.ownsRow b1 e1 s1 v1 n1 x1) (hlt : ∀ k, v1.ownBlock = some k → k < B) (h2 : w.ownsRow B e2 s2 v2 n2 x2) (hg : w.grownBy w' v2.ownBlock) : w'.ownsRow b1 e1 s1 v1 n1 x1 :=
  row_kept h1 (fun k hk => hg.block k (row_lt h1 hk) (fun e => by have := hlt k hk; have := row_base h2 e.symm; omega))
theorem row_below {w w' : World} {b : Nat} {e : TypeId} {s n : Nat} {v : Value} {x : List Value} (h : w.ownsRow b e s v n x) (hb : Below w.heap.size w w') : w'.ownsRow b e s v n x :=
  row_kept h (fun j hj => hb.block j (row_lt h hj))

theorem bl_grown0 {w w' : World} {row : Option Nat} (hg : w.grownBy w' row) (hr : row = none) : Below w.heap.size w w' :=
  ⟨hg.os, hg.tape, hg.output, hg.size, fun k hk => hg.block k hk (by rw [hr]; simp)⟩
def crashEv : Ev := ⟨8, 0, 0, 0⟩

set_option maxRecDepth 100000 in
set_option maxHeartbeats 4000000 in
theorem crash_any (a0 : Option Addr) (cap0 : Nat) (l0 : List Ev) (a1 : Option Addr) (cap1 : Nat) (l1 : List Ev) (w : World) (hA : ArgEv w a0 cap0 l0) (hB : ArgEv w a1 cap1 l1)
    (hf0 : ∀ e ∈ l0, OrdL.Fit64 e.core ∧ OrdL.Fit64 e.at_) (hf1 : ∀ e ∈ l1, OrdL.Fit64 e.core ∧ OrdL.Fit64 e.at_) :
    Calls Try.prog 3 #[.slice a0 l0.length cap0, .slice a1 l1.length cap1] w fun e w' => e = .returned (.bool true) ∧ Below w.heap.size w w' := by
  obtain ⟨i0, hi, hz0, hz1, hz2⟩ := info_parts infoI
  obtain ⟨i1, hi', hz0', hz1', hz2'⟩ := info_parts infoE
  by_cases hlt : 150 < l0.length
  · have hg : ((150 : Int) < (l0.length : Int)) := by omega
    clear hA hB
    go_enter Try.func3, Try.ntmps3
    go_wp2_with fail
    refine (alive_any w).mono ?_
    rintro e w1 ⟨rfl, hb⟩
    have HB := Lib.hid hb
    clear hb
    go_wp2_with fail
    go_ret
    exact ⟨rfl, HB.out⟩
  have hg : ¬ ((150 : Int) < (l0.length : Int)) := by omega
  by_cases hlt1 : 150 < l1.length
  · have hg1 : ((150 : Int) < (l1.length : Int)) := by omega
    clear hA hB
    go_enter Try.func3, Try.ntmps3
    go_wp2_with fail
    refine (alive_any w).mono ?_
    rintro e w1 ⟨rfl, hb⟩
    have HB := Lib.hid hb
    clear hb
    go_wp2_with fail
    go_ret
    exact ⟨rfl, HB.out⟩
  have hg1 : ¬ ((150 : Int) < (l1.length : Int)) := by omega
  have HA := Lib.hid hA
  have HB := Lib.hid hB
  have HF0 := Lib.hid hf0
  have HF1 := Lib.hid hf1
  clear hA hB hf0 hf1
  go_enter Try.func3, Try.ntmps3
  go_wp2_with fail
  refine (alive_any w).mono ?_
  rintro e w1 ⟨rfl, hb⟩
  have HW := Lib.hid hb
  clear hb
  go_wp2_with fail
  go_loopw [6] (fun i wr => ∃ k : Nat, k ≤ l0.length + l1.length ∧ i = .int .i64 k ∧ Below w.heap.size w wr) (fun i _ => l0.length + l1.length - (intOf i).toNat)
  case atStart => exact ⟨0, Nat.zero_le _, rfl, HW.out⟩
  case round =>
    obtain ⟨k, hk, rfl, hbw⟩ := hrel
    have HBW := Lib.hid hbw
    have hszw : w.heap.size ≤ wr.heap.size := hbw.size
    by_cases hlt2 : k < l0.length + l1.length
    · have hk0 : (k : Int) < (l0.length : Int) + (l1.length : Int) := by omega
      by_cases hk1 : k < l0.length
      · obtain ⟨ev, hev⟩ : ∃ ev, l0[k]? = some ev := ⟨_, List.getElem?_eq_getElem hk1⟩
        have hk2 : (k : Int) < (l0.length : Int) := by omega
        rcases HA.out.below hbw with ⟨_, _, h⟩ | ⟨x, rfl, h⟩
        · subst h; simp at hk1
        obtain ⟨h1, h2, h3⟩ := h (fun e => by rw [e] at hk1; simp at hk1)
        obtain ⟨b, off, sp⟩ := x
        simp only at h1 h2 h3
        subst h1
        obtain ⟨d0, d1, d2, d3⟩ := h3 k ev hev
        obtain ⟨ek, ec, ea, evv⟩ := ev
        simp only at d0 d1 d2 d3
        clear hbw h h3 hev HA HB HW HF0 HF1
        by_cases hc : ec < 0
        · go_wp2_with fail
          go_ret
          exact ⟨rfl, by repeat (first | exact HBW.out | refine bl_drew ?_ | refine bl_alloc ?_ _ | refine bl_set ?_ (by first | exact hszw | (simp <;> omega)) _)⟩
        · by_cases hc2 : 63 < ec
          · go_wp2_with fail
            go_ret
            exact ⟨rfl, by repeat (first | exact HBW.out | refine bl_drew ?_ | refine bl_alloc ?_ _ | refine bl_set ?_ (by first | exact hszw | (simp <;> omega)) _)⟩
          · go_wp2_with fail
            refine ⟨⟨k + 1, by omega, by go_num, HBW.out.alloc hszw _⟩, by simp [intOf]; omega⟩
      · obtain ⟨q, rfl⟩ : ∃ q, k = l0.length + q := ⟨k - l0.length, by omega⟩
        have hk1 : q < l1.length := by omega
        obtain ⟨ev, hev⟩ : ∃ ev, l1[q]? = some ev := ⟨_, List.getElem?_eq_getElem hk1⟩
        have hk2 : ¬ (((l0.length + q : Nat) : Int) < (l0.length : Int)) := by omega
        have hk3 : ((l0.length + q : Nat) : Int) - (l0.length : Int) = (q : Int) := by omega
        have hk4 : (q : Int) < (l1.length : Int) := by omega
        rcases HB.out.below hbw with ⟨_, _, h⟩ | ⟨x, rfl, h⟩
        · subst h; simp at hk1
        obtain ⟨h1, h2, h3⟩ := h (fun e => by rw [e] at hk1; simp at hk1)
        obtain ⟨b, off, sp⟩ := x
        simp only at h1 h2 h3
        subst h1
        obtain ⟨d0, d1, d2, d3⟩ := h3 q ev hev
        obtain ⟨ek, ec, ea, evv⟩ := ev
        simp only at d0 d1 d2 d3
        clear hbw h h3 hev HA HB HW HF0 HF1
        by_cases hc : ec < 0
        · go_wp2_with fail
          go_ret
          exact ⟨rfl, by repeat (first | exact HBW.out | refine bl_drew ?_ | refine bl_alloc ?_ _ | refine bl_set ?_ (by first | exact hszw | (simp <;> omega)) _)⟩
        · by_cases hc2 : 63 < ec
          · go_wp2_with fail
            go_ret
            exact ⟨rfl, by repeat (first | exact HBW.out | refine bl_drew ?_ | refine bl_alloc ?_ _ | refine bl_set ?_ (by first | exact hszw | (simp <;> omega)) _)⟩
          · go_wp2_with fail
            refine ⟨⟨l0.length + q + 1, by omega, by go_num, HBW.out.alloc hszw _⟩, by simp [intOf]; omega⟩
    · obtain rfl : k = l0.length + l1.length := by omega
      have HA2 := Lib.hid (HA.out.below hbw)
      clear hbw HW
      go_wp2_with (first
        | (at_builtin; refine wpList_append_evs rfl (.const (.slice none 0 0)) (.tmp 56) 22 rfl w.heap.size 26 i1 (.agg #[.int .i64 0, .int .i64 0, .int .i64 0, .int .u64 0]) 32 Try.underlying22 hi' hz0' hz1' hz2' rfl (.slice none 0 0) 0 [] rfl (World.ownsRow_nil _ _ _ _) a0 cap0 l0 rfl HA2.out (by unfold maxLen; omega) (by omega) hszw ?_; intro v3 w3 hown3 hgrow3; rw [Nat.zero_add, List.nil_append] at hown3; have HO3 := Lib.hid hown3; have HG3 := Lib.hid (HBW.out.grown hgrow3 hszw (fun j hj => by simp [Value.ownBlock] at hj)); have hszw3 : w.heap.size ≤ w3.heap.size := HG3.out.size; clear hown3 hgrow3)
        | (at_builtin; refine wpList_append_own _ rfl (.tmp 57) (.tmp 59) 22 rfl w.heap.size 26 i1 (.agg #[.int .i64 0, .int .i64 0, .int .i64 0, .int .u64 0]) 4 32 Try.underlying22 hi' hz0' hz1' hz2' rfl (by decide) v3 l0.length (l0.flatMap evV) rfl (HO3.out.alloc _) ⟨w3.heap.size, 0, none⟩ 1 1 [.int .i64 8, .int .i64 0, .int .i64 0, .int .u64 0] rfl rfl (World.news_of_block (heap_new w3 (.cells #[.int .i64 8, .int .i64 0, .int .i64 0, .int .u64 0] 26))) (by simp [Value.oneCell']) (by unfold maxLen; omega) (by omega) (by simp; omega) ?_; intro v4 w4 hown4 hgrow4 _; have HO4 := Lib.hid hown4; have HG4 := Lib.hid ((HG3.out.alloc hszw3 _).grown hgrow4 (by simp; omega) (fun j hj => row_base HO3.out hj)); have HB4 := Lib.hid (HB.out.below HG4.out); have hszw4 : w.heap.size ≤ w4.heap.size := HG4.out.size; clear hown4 hgrow4)
        | (at_builtin; refine wpList_append_evs rfl (.tmp 60) (.tmp 61) 22 rfl w.heap.size 26 i1 (.agg #[.int .i64 0, .int .i64 0, .int .i64 0, .int .u64 0]) 32 Try.underlying22 hi' hz0' hz1' hz2' rfl v4 (l0.length + 1) _ rfl HO4.out a1 cap1 l1 rfl HB4.out (by unfold maxLen; omega) (by omega) hszw4 ?_; intro v5 w5 hown5 hgrow5; have HO5 := Lib.hid hown5; have HG5 := Lib.hid (HG4.out.grown hgrow5 hszw4 (fun j hj => row_base HO4.out hj)); have hszw5 : w.heap.size ≤ w5.heap.size := HG5.out.size; clear hown5 hgrow5))
      have hlen : (l0 ++ crashEv :: l1).length = l0.length + 1 + l1.length := by simp; omega
      have hR : w5.ownsRow w.heap.size 26 4 v5 (l0 ++ crashEv :: l1).length ((l0 ++ crashEv :: l1).flatMap evV) := by
        rw [hlen]
        have := HO5.out
        rw [List.append_assoc] at this
        simpa [List.flatMap_append, List.flatMap_cons, evV, crashEv] using this
      have O := of_row w.heap.size v5 (l0 ++ crashEv :: l1) w5 (by omega) (fun e he => by
        rcases List.mem_append.1 he with h | h
        · exact HF0.out e h
        · rcases List.mem_cons.1 h with h | h
          · subst h; exact ⟨fit0, fit0⟩
          · exact HF1.out e h) hR
      refine O.mono ?_
      rintro e w6 ⟨v6, rfl, hrow6, hb6⟩
      have HR6 := Lib.hid hrow6
      have HG6 := Lib.hid (HG5.out.trans (hb6.mono hszw5))
      have hszw6 : w.heap.size ≤ w6.heap.size := HG6.out.size
      have hlt6 : ∀ j, v6.ownBlock = some j → j < w6.heap.size := fun j hj => row_lt hrow6 hj
      have HL6 := Lib.hid hlt6
      have OA := Lib.hid (of_arg a0 cap0 l0 w6 (by omega) HF0.out (HA.out.below HG6.out))
      clear O hR hrow6 hb6 hlt6 HO3 HO4 HO5 HB4 HA2 HG3 HG4
      go_wp2_with fail
      refine OA.out.mono ?_
      rintro e w7 ⟨v7, rfl, hrow7, hb7⟩
      have HR7 := Lib.hid hrow7
      have HG7 := Lib.hid (HG6.out.trans (hb7.mono hszw6))
      have HR67 := Lib.hid (row_below HR6.out hb7)
      have hszw7 : w.heap.size ≤ w7.heap.size := HG7.out.size
      have hsz67 : w6.heap.size ≤ w7.heap.size := hb7.size
      have hla : (OrdL.of l0).length ≤ 150 := by have := of_length l0; omega
      have hlb : (OrdL.of l1).length ≤ 150 := by have := of_length l1; omega
      clear OA hrow7 hb7
      go_wp2_with (at_builtin; refine wpList_append_own _ rfl (.tmp 66) (.tmp 67) 27 rfl w6.heap.size 3 i0 (.int .i64 0) 1 8 Try.underlying27 hi hz0 hz1 hz2 rfl (by decide) v7 _ _ rfl (HR7.out.alloc _) ⟨w7.heap.size, 0, none⟩ 1 1 [.int .i64 (-1)] rfl rfl (World.news_of_block (heap_new w7 (.cells #[.int .i64 (-1)] 3))) (by simp [Value.oneCell']) (by unfold maxLen; omega) (by omega) (by simp; omega) ?_; intro v8 w8 hown8 hgrow8 _; have HR8 := Lib.hid hown8; have HG8 := Lib.hid ((HG7.out.alloc hszw7 _).grown hgrow8 (by simp; omega) (fun j hj => Nat.le_trans hszw6 (row_base HR7.out hj))); have HR68 := Lib.hid (row_grown3 (HR67.out.alloc _) HL6.out (HR7.out.alloc _) hgrow8); have hsz68 : w6.heap.size ≤ w8.heap.size := Nat.le_trans hsz67 (by have := hgrow8.size; simp at this; omega); have hszw8 : w.heap.size ≤ w8.heap.size := HG8.out.size; clear hown8 hgrow8)
      have OB := of_arg a1 cap1 l1 w8 (by omega) HF1.out (HB.out.below HG8.out)
      refine OB.mono ?_
      rintro e w9 ⟨v9, rfl, hrow9, hb9⟩
      have HR9 := Lib.hid hrow9
      have HG9 := Lib.hid (HG8.out.trans (hb9.mono hszw8))
      have HR69 := Lib.hid (row_below HR68.out hb9)
      have HR89 := Lib.hid (row_below HR8.out hb9)
      have hszw9 : w.heap.size ≤ w9.heap.size := HG9.out.size
      have hsz69 : w6.heap.size ≤ w9.heap.size := Nat.le_trans hsz68 hb9.size
      clear OB hrow9 hb9 HR7 HR8 HR67 HR68 HR6
      go_wp2_with (at_builtin; refine wpList_append_row rfl (.tmp 68) (.tmp 70) 27 rfl w6.heap.size 3 i0 (.int .i64 0) 1 8 Try.underlying27 hi hz0 hz1 hz2 rfl (by decide) v8 _ _ rfl HR89.out v9 _ _ _ rfl HR9.out (by simp [Value.oneCell']) (by unfold maxLen; omega) (by omega) hsz69 ?_; intro v10 w10 hown10 hgrow10; have HR10 := Lib.hid hown10; have HG10 := Lib.hid (HG9.out.grown hgrow10 hszw9 (fun j hj => Nat.le_trans hszw6 (row_base HR89.out hj))); have HR610 := Lib.hid (row_grown3 HR69.out HL6.out HR89.out hgrow10); clear hown10 hgrow10)
      have hfin : OrdL.of (l0 ++ crashEv :: l1) = OrdL.of l0 ++ [-1] ++ OrdL.of l1 := OrdL.of_crash l0 l1 crashEv rfl
      have hlf : (OrdL.of l0 ++ [-1] ++ OrdL.of l1).length = (OrdL.of l0).length + 1 + (OrdL.of l1).length := by simp; omega
      have S := same_any _ _ v6 v10 _ (OrdL.of l0 ++ [-1] ++ OrdL.of l1) w10 (by rw [hfin, hlf]; omega) (by rw [hlf]; omega) HR610.out (by
        rw [hlf, List.map_append, List.map_append]; exact HR10.out)
      rw [hfin] at S
      have HS := Lib.hid S
      clear S hfin hlf HR610 HR10 HR9 HR89 HR69
      refine HS.out.mono ?_
      rintro e w11 ⟨rfl, hb11⟩
      simp only [decide_true]
      have HG11 := Lib.hid (HG10.out.trans (hb11.mono HG10.out.size))
      clear hb11
      go_wp2_with fail
      go_ret
      exact ⟨rfl, HG11.out⟩
end Go.Proofs.Ytmplhchplehhlaa
