/- How the walk over a trace of events lies in memory ('WAt'), and what its methods may turn ('TW'). -/
import Derived.Test.YtmplhchplehhlaaProg
import Derived.Test.YtmplhchplehhlaaLib
import Derived.Test.YtmplhchplehhlaaOrdPlain
import Derived.Deep.AppendLies
import Derived.KernelRfl
namespace Go.Proofs.Ytmplhchplehhlaa
open Go.RowKit
open OrdL (Ev Tr Wk)

def evV (e : Ev) : List Value := [.int .i64 e.kind, .int .i64 e.core, .int .i64 e.at_, .int .u64 e.v]
def trV (t : Tr) : List Value := evV t.last ++ [.int .i64 t.pos, .bool t.op]
def encT (p : Int × Tr) : Int × Value := (p.1, .agg (trV p.2).toArray)
def encB (p : Int × Int) : Int × Value := (p.1, .int .i64 p.2)
def deedV (p : Int × Int) : List Value := [.int .i64 p.1, .int .i64 p.2]
def deedsV (l : List (Int × Int)) : List Value := l.flatMap deedV

theorem getV_T (k : Int) (l : List (Int × Tr)) : getV k (l.map encT) = (OrdL.getK k l).map fun t => .agg (trV t).toArray := by
  induction l with
  | nil => rfl
  | cons p l ih => obtain ⟨k', x⟩ := p; simp only [encT, List.map_cons, getV, OrdL.getK] at *; split <;> simp_all
theorem delV_T (k : Int) (l : List (Int × Tr)) : delV k (l.map encT) = (OrdL.delK k l).map encT := by
  simp only [delV, OrdL.delK, List.filter_map]; rfl
theorem insV_T (x : Int × Tr) (l : List (Int × Tr)) : insV (encT x) (l.map encT) = (OrdL.insK x l).map encT := by
  induction l with
  | nil => rfl
  | cons p l ih =>
    simp only [List.map_cons, insV, OrdL.insK]
    have : ((encT x).1 < (encT p).1) = (x.1 < p.1) := rfl
    simp only [this]
    split <;> simp_all
theorem putV_T (k : Int) (t : Tr) (l : List (Int × Tr)) : putV k (.agg (trV t).toArray) (l.map encT) = (OrdL.putK k t l).map encT := by
  unfold putV OrdL.putK
  rw [delV_T, ← insV_T]; rfl
theorem getV_B (k : Int) (l : List (Int × Int)) : getV k (l.map encB) = (OrdL.getK k l).map fun t => .int .i64 t := by
  induction l with
  | nil => rfl
  | cons p l ih => obtain ⟨k', x⟩ := p; simp only [encB, List.map_cons, getV, OrdL.getK] at *; split <;> simp_all
theorem delV_B (k : Int) (l : List (Int × Int)) : delV k (l.map encB) = (OrdL.delK k l).map encB := by
  simp only [delV, OrdL.delK, List.filter_map]; rfl
theorem insV_B (x : Int × Int) (l : List (Int × Int)) : insV (encB x) (l.map encB) = (OrdL.insK x l).map encB := by
  induction l with
  | nil => rfl
  | cons p l ih =>
    simp only [List.map_cons, insV, OrdL.insK]
    have : ((encB x).1 < (encB p).1) = (x.1 < p.1) := rfl
    simp only [this]
    split <;> simp_all
theorem putV_B (k : Int) (t : Int) (l : List (Int × Int)) : putV k (.int .i64 t) (l.map encB) = (OrdL.putK k t l).map encB := by
  unfold putV OrdL.putK
  rw [delV_B, ← insV_B]; rfl

/-- the walk's struct is block r, its maps are blocks mb, bb, its deeds are the row dv; n is no less than the tries and deeds, and the backs -/
structure WRep (B : Nat) (w : World) (r mb bb n : Nat) (dv : Value) (W : Wk) : Prop where
  obj : w.heap[r]? = some (.cells #[.map (some mb), dv, .map (some bb)] 43 (0, 0))
  tries : IMap w Try.prog 3 mb W.tries.length (W.tries.map encT)
  backs : IMap w Try.prog 3 bb W.backs.length (W.backs.map encB)
  deeds : w.ownsRow B 46 2 dv W.deeds.length (deedsV W.deeds)
  ne : mb ≠ bb
  base : B ≤ r ∧ B ≤ mb ∧ B ≤ bb
  len : W.deeds.length + W.tries.length ≤ n
  lenB : W.backs.length ≤ n
def WAt (B : Nat) (w : World) (r mb bb n : Nat) (W : Wk) : Prop := ∃ dv, WRep B w r mb bb n dv W

theorem getK_len {β : Type} {k : Int} {l : List (Int × β)} {x : β} (h : OrdL.getK k l = some x) : (OrdL.delK k l).length + 1 ≤ l.length := by
  induction l with
  | nil => cases h
  | cons p l ih =>
    obtain ⟨k', y⟩ := p
    simp only [OrdL.getK] at h
    unfold OrdL.delK at *
    simp only [List.filter_cons]
    by_cases e : k' = k
    · subst e
      have := List.length_filter_le (fun p : Int × β => p.1 != k') l
      simp; omega
    · rw [if_neg e] at h
      have := ih h
      simp [e]; omega
theorem insK_len {β : Type} (x : Int × β) (l : List (Int × β)) : (OrdL.insK x l).length = l.length + 1 := by
  induction l with
  | nil => rfl
  | cons y l ih => unfold OrdL.insK; split <;> simp [ih]
theorem putK_len {β : Type} (k : Int) (x : β) (l : List (Int × β)) : (OrdL.putK k x l).length = (OrdL.delK k l).length + 1 := insK_len _ _
theorem delK_len {β : Type} (k : Int) (l : List (Int × β)) : (OrdL.delK k l).length ≤ l.length := List.length_filter_le _ _

/-- what the walk's methods may turn -/
def TW (B mb bb : Nat) : Nat → Obj → Prop := fun k o => B ≤ k ∧ match o with
  | .cells _ t _ => t = 43 ∨ t = 46
  | .map _ _ => k = mb ∨ k = bb
  | _ => False

theorem infoD : (Try.prog.info? 46).map (fun i => (i.zero, i.size, i.bytes)) = some (some (.agg #[.int .i64 0, .int .i64 0]), 2, 16) := by kernel_rfl
theorem zeroTry (w : World) : (zeroValue 52).run Try.prog w = .ok (.agg #[.int .i64 0, .int .i64 0, .int .i64 0, .int .u64 0, .int .i64 0, .bool false]) w := by kernel_rfl
theorem zeroInt (w : World) : (zeroValue 3).run Try.prog w = .ok (.int .i64 0) w := by kernel_rfl
end Go.Proofs.Ytmplhchplehhlaa
