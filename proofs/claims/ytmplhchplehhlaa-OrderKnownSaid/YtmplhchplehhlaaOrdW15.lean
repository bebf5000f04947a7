/- Walks over chapter 24: the row OrderKnown. -/
import Derived.Test.YtmplhchplehhlaaOrdW14
namespace Go.Proofs.Ytmplhchplehhlaa
open Go.RowKit Go.Maps Go.Shelf
open OrdL (Ev Tr Wk)

def knownEv : List (List Ev) := [
  [⟨1, 0, 4096, 0⟩],
  [⟨1, 0, 4096, 0⟩, ⟨6, 0, 0, 0⟩],
  [⟨1, 0, 4096, 0⟩, ⟨1, 0, 4096, 0⟩, ⟨6, 0, 0, 0⟩],
  [⟨3, 0, 4096, 0⟩],
  [⟨3, 0, 4096, 0⟩, ⟨7, 0, 0, 0⟩],
  [⟨7, 0, 0, 0⟩, ⟨3, 0, 4096, 0⟩],
  [⟨3, 0, 4096, 0⟩, ⟨7, 0, 1, 0⟩],
  [⟨3, 0, 4096, 0⟩, ⟨7, 0, 0, 0⟩, ⟨8, 0, 0, 0⟩],
  [⟨3, 0, 4096, 0⟩, ⟨8, 0, 0, 0⟩, ⟨7, 0, 0, 0⟩],
  [⟨2, 0, 4096, 0⟩, ⟨3, 0, 4096, 0⟩, ⟨6, 0, 0, 0⟩],
  [⟨2, 0, 4096, 0⟩, ⟨2, 0, 4096, 0⟩, ⟨6, 0, 0, 0⟩],
  [⟨2, 0, 4096, 0⟩, ⟨6, 0, 0, 0⟩, ⟨2, 0, 4096, 0⟩, ⟨6, 0, 0, 0⟩],
  [⟨1, 0, 4096, 0⟩, ⟨3, 0, 4096, 0⟩, ⟨6, 0, 0, 0⟩],
  [⟨2, 0, 4096, 0⟩, ⟨3, 0, 4096, 0⟩, ⟨3, 0, 4096, 0⟩, ⟨6, 0, 0, 0⟩],
  [⟨3, 0, 4096, 0⟩, ⟨4, 1, 0, 0⟩, ⟨6, 0, 0, 0⟩],
  [⟨4, 1, 0, 0⟩, ⟨3, 0, 4096, 0⟩, ⟨7, 0, 0, 0⟩],
  [⟨3, 0, 4096, 0⟩, ⟨10, 0, 0, 0⟩],
  [⟨2, 0, 4096, 0⟩, ⟨4, 1, 0, 0⟩, ⟨3, 0, 4096, 0⟩, ⟨7, 0, 0, 0⟩],
  [⟨1, 0, 4096, 0⟩, ⟨9, 0, 0, 0⟩],
  [⟨2, 0, 4096, 0⟩, ⟨1, 0, 4096, 0⟩, ⟨6, 0, 0, 0⟩],
  [⟨2, 0, 4096, 0⟩, ⟨3, 0, 4096, 0⟩, ⟨7, 0, 0, 0⟩, ⟨8, 0, 0, 0⟩, ⟨4, 1, 0, 0⟩]]
def knownOut : List (List Int) := [[], [0], [0, 0], [], [0], [], [], [0, -1], [-1], [0], [0], [0, 0], [0, 0], [0, 0], [0, 1], [1, 0], [0], [1, 0], [0], [0, 0], [0, -1, 1]]
/-- how many of the wanted rows ahead of each are no nil -/
def knownIdx : List Nat := [0, 0, 1, 2, 2, 3, 3, 3, 4, 5, 6, 7, 8, 9, 10, 11, 12, 13, 14, 15, 16]
def kEv (k : Nat) : List Ev := knownEv.getD k []
def kOut (k : Nat) : List Int := knownOut.getD k []
def kWant (s k : Nat) : Value := if kOut k = [] then .slice none 0 0 else .slice (some ⟨s + (31 + knownIdx.getD k 0), 0, none⟩) (kOut k).length (kOut k).length

theorem known_of (k : Nat) (hk : k < 21) : OrdL.of (kEv k) = kOut k := by
  have h : k = 0 ∨ k = 1 ∨ k = 2 ∨ k = 3 ∨ k = 4 ∨ k = 5 ∨ k = 6 ∨ k = 7 ∨ k = 8 ∨ k = 9 ∨ k = 10 ∨ k = 11 ∨ k = 12 ∨ k = 13 ∨ k = 14 ∨ k = 15 ∨ k = 16 ∨ k = 17 ∨ k = 18 ∨ k = 19 ∨ k = 20 := by omega
  rcases h with rfl | rfl | rfl | rfl | rfl | rfl | rfl | rfl | rfl | rfl | rfl | rfl | rfl | rfl | rfl | rfl | rfl | rfl | rfl | rfl | rfl <;>
    simp [kEv, kOut, knownEv, knownOut, OrdL.of, OrdL.ofGo, Wk.zero, OrdL.Wk.event, OrdL.Wk.tried, OrdL.Wk.goes, OrdL.Wk.end_, OrdL.getK, OrdL.putK, OrdL.insK, OrdL.delK, OrdL.Wk.close, OrdL.Wk.closed, OrdL.Wk.closeStep, OrdL.Wk.kept, OrdL.lineOf, OrdL.sortD, List.mergeSort, List.MergeSort.Internal.splitInTwo]

def evObj (e : Ev) : Obj := .cells #[.int .i64 e.kind, .int .i64 e.core, .int .i64 e.at_, .int .u64 e.v] 26
/-- the blocks that OrderKnown makes, behind s of them -/
def knownObjs (s : Nat) : List Obj :=
  [evObj ⟨1, 0, 4096, 0⟩, evObj ⟨2, 0, 4096, 0⟩, evObj ⟨3, 0, 4096, 0⟩, evObj ⟨6, 0, 0, 0⟩, evObj ⟨7, 0, 0, 0⟩, evObj ⟨8, 0, 0, 0⟩, evObj ⟨4, 1, 0, 0⟩, evObj ⟨10, 0, 0, 0⟩, evObj ⟨7, 0, 1, 0⟩]
  ++ knownEv.map (fun l => Obj.cells (l.flatMap evV).toArray 26)
  ++ [Obj.cells ((List.range 21).map fun i => Value.slice (some ⟨s + (9 + i), 0, none⟩) (kEv i).length (kEv i).length).toArray 22]
  ++ (knownOut.filter (fun l => !l.isEmpty)).map (fun l => Obj.cells (l.map (Value.int .i64)).toArray 3)
  ++ [Obj.cells ((List.range 21).map fun i => kWant s i).toArray 27]

def allocs (w : World) (os : List Obj) : World := os.foldl (fun w o => w.alloc o) w
theorem allocs_size (os : List Obj) : ∀ w : World, (allocs w os).heap.size = w.heap.size + os.length := by
  induction os with
  | nil => intro w; rfl
  | cons o os ih => intro w; show (allocs (w.alloc o) os).heap.size = _; rw [ih, World.size_alloc, List.length_cons]; omega
theorem allocs_below (os : List Obj) : ∀ w : World, Below w.heap.size w (allocs w os) := by
  induction os with
  | nil => intro w; exact Below.refl _ _
  | cons o os ih => intro w; exact bl_then (bl_alloc (bl0 w) o) (ih (w.alloc o))
theorem allocs_get (os : List Obj) : ∀ (w : World) (i : Nat) (o : Obj), os[i]? = some o → (allocs w os).heap[w.heap.size + i]? = some o := by
  induction os with
  | nil => intro w i o h; simp at h
  | cons x os ih =>
    intro w i o h
    show (allocs (w.alloc x) os).heap[w.heap.size + i]? = some o
    cases i with
    | zero =>
      simp only [List.getElem?_cons_zero, Option.some.injEq] at h
      subst h
      rw [(allocs_below os (w.alloc x)).block _ (by simp only [World.size_alloc]; omega)]
      exact heap_new w x
    | succ i =>
      simp only [List.getElem?_cons_succ] at h
      have := ih (w.alloc x) i o h
      rw [World.size_alloc] at this
      rw [← this]
      congr 1
      omega

theorem known_world (k : Nat) (hk : k < 21) (w : World) :
    (allocs w (knownObjs w.heap.size)).cell? ⟨w.heap.size + 30, k, none⟩ = some (.slice (some ⟨w.heap.size + (9 + k), 0, none⟩) (kEv k).length (kEv k).length) ∧
    EvsAt (allocs w (knownObjs w.heap.size)) (w.heap.size + (9 + k)) 0 (kEv k) ∧
    (allocs w (knownObjs w.heap.size)).cell? ⟨w.heap.size + 48, k, none⟩ = some (kWant w.heap.size k) ∧
    (allocs w (knownObjs w.heap.size)).ownsRow 0 3 1 (kWant w.heap.size k) (kOut k).length ((kOut k).map (Value.int .i64)) := by
  have h : k = 0 ∨ k = 1 ∨ k = 2 ∨ k = 3 ∨ k = 4 ∨ k = 5 ∨ k = 6 ∨ k = 7 ∨ k = 8 ∨ k = 9 ∨ k = 10 ∨ k = 11 ∨ k = 12 ∨ k = 13 ∨ k = 14 ∨ k = 15 ∨ k = 16 ∨ k = 17 ∨ k = 18 ∨ k = 19 ∨ k = 20 := by omega
  generalize hs : w.heap.size = s
  have g := fun i o hi => hs ▸ allocs_get (knownObjs s) w i o hi
  refine ⟨?_, ?_, ?_, ?_⟩
  · rw [cell_obj (g 30 _ rfl)]
    rcases h with rfl | rfl | rfl | rfl | rfl | rfl | rfl | rfl | rfl | rfl | rfl | rfl | rfl | rfl | rfl | rfl | rfl | rfl | rfl | rfl | rfl <;> rfl
  · refine evs_row (n := (kEv k).length) (cur := ((kEv k).flatMap evV).toArray) (t := 26) (f := (0, 0)) (g (9 + k) _ ?_) ?_ rfl
    · rcases h with rfl | rfl | rfl | rfl | rfl | rfl | rfl | rfl | rfl | rfl | rfl | rfl | rfl | rfl | rfl | rfl | rfl | rfl | rfl | rfl | rfl <;> rfl
    · rw [List.toList_toArray, ← flat_len, List.take_length]
  · rw [cell_obj (g 48 _ rfl)]
    rcases h with rfl | rfl | rfl | rfl | rfl | rfl | rfl | rfl | rfl | rfl | rfl | rfl | rfl | rfl | rfl | rfl | rfl | rfl | rfl | rfl | rfl <;> rfl
  · refine ⟨by simp, ?_⟩
    by_cases h0 : kOut k = []
    · exact Or.inl ⟨by simp [kWant, h0], by simp [h0]⟩
    · refine Or.inr ⟨s + (31 + knownIdx.getD k 0), (kOut k).length, ((kOut k).map (Value.int .i64)).toArray, by simp [kWant, h0], Nat.zero_le _, g _ _ ?_, Nat.le_refl _, ?_, by simp, ?_⟩
      · rcases h with rfl | rfl | rfl | rfl | rfl | rfl | rfl | rfl | rfl | rfl | rfl | rfl | rfl | rfl | rfl | rfl | rfl | rfl | rfl | rfl | rfl <;> first | rfl | exact absurd rfl h0
      · rcases h with rfl | rfl | rfl | rfl | rfl | rfl | rfl | rfl | rfl | rfl | rfl | rfl | rfl | rfl | rfl | rfl | rfl | rfl | rfl | rfl | rfl <;> decide
      · rw [List.toList_toArray, Nat.mul_one]; exact List.take_of_length_le (by simp)
end Go.Proofs.Ytmplhchplehhlaa
