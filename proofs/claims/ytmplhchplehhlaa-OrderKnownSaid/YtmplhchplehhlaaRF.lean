/- 'for x := range f': the law of a range over a function where the loop's one variable is a slot of its own. -/
import Derived.RangeFuncNested
import Derived.RangeFuncBound
import Derived.RangeFuncCalls
import Derived.RangeFuncLeaves
import Derived.Shelf.Abstract
import Derived.Shelf.AbstractIn
import Derived.Shelf.RegionOpen
import Derived.WalkKit
import Derived.OwnWalkIn
import Derived.TacticsInMore
import Derived.LoopNIn
import Derived.LoopIn
import Derived.Lib.Hide
namespace Go.Proofs.Ytmplhchplehhlaa
open Go.RowKit Go.Shelf
attribute [local go_sem] Oper.semAt_some

theorem assign1 {F : Fence} {m : Nat} {P : Program} {id q p : Nat} {ty : TypeId} {pos : String} {aft : Array Edge} {T : Array Value} {v : Value} (hp : p < T.size) {W : World} {K : Act → World → Prop} {l : Nat}
    (hK : K { tmps := (T.setIfInBounds p v).setIfInBounds q v, defers := [] } W) :
    (Code.region id #[{ dst := some q, op := Op.assign (Operand.tmp p), type := ty, pos := pos, after := aft, guard := none }] false).wpIn (F.inRound l) m P (Exit.then K (fun _ _ _ => False)) { tmps := T.setIfInBounds p v, defers := [] } W := by
  have h0 : ({ tmps := T.setIfInBounds p v, defers := [] } : Act).eval (.tmp p) = v := by simp [Act.eval, hp]
  gi_wp2
  exact hK

theorem rangeFunc1 {α : Type} {F : Fence} {n : Nat} {P : Program} {g : Operand} {p q id : Nat} {ty : TypeId} {pos : String} {aft : Array Edge} {body : Code} {Q : Exit → Act → World → Prop} {a : Act} {w : World}
    (hro : F.round = none) (h1 : 1 ≤ n) {gf : Nat} {lb : Array Value} (hg : a.eval g = .func (.func gf) #[] lb) (hFg : F.fn gf) (eg : ∀ args w, (callFunc gf args).run P w = .ok (.enter gf args) w) (hp : p < a.tmps.size)
    {enc : α → Value} {Kp : World → World → Prop} {S Sp : List α → Prop} {N : Nat} {w0 : World} (hseq : SeqStopsK F (n - 1) P gf lb (fun x => #[enc x]) Kp S Sp N w0)
    (hKt : ∀ {A B C : World}, Kp A B → Kp B C → Kp A C) (hKb : ∀ (W : World) (l : Nat) (o o' : Obj), w.heap.size ≤ l → W.heap[l]? = some o → o.isCells = false → o.isWalk = false → Kp W (W.putObj l o')) (hb0 : Below w0.heap.size w0 w)
    (I : List α → World → Prop) (Ix : Code → List α → World → Prop) (hI : OwnFrom w.heap.size I) (hIx : ∀ c, OwnFrom w.heap.size (Ix c)) (h0 : I [] w)
    (hbody : ∀ (l : Nat) (pre : List α) (x : α) (W : World), I pre W → pre.length < N →
      body.wpIn (F.inRound l) (n - 1 - 1) P (ownPostG w.heap.size Kp I Ix (pre ++ [x]) W) { tmps := (a.tmps.setIfInBounds p (enc x)).setIfInBounds q (enc x), defers := [] } W)
    (hdone : ∀ (D : Nat) (xs : List α) (W : World), w.heap.size ≤ D → S xs → I xs W → W.heap[D]? = some (.deferred (some [])) → Q .normal { a with defers := { target := .collected D, args := #[] } :: a.defers } W)
    (hstop : ∀ (D : Nat) (c : Code) (pre : List α) (W : World), w.heap.size ≤ D → Sp pre → Ix c pre W → W.heap[D]? = some (.deferred (some [])) → c.wpIn F n P Q { a with defers := { target := .collected D, args := #[] } :: a.defers } W) :
    (Code.rangeFunc g #[p] (Code.region id #[{ dst := some q, op := Op.assign (Operand.tmp p), type := ty, pos := pos, after := aft, guard := none }] false) body).wpIn F n P Q a w :=
  wpIn_rangeFunc_ownG hro h1 hg hFg eg hseq hKt hKb hb0 (fun _ => rfl) I Ix hI hIx h0 (fun x => { tmps := (a.tmps.setIfInBounds p (enc x)).setIfInBounds q (enc x), defers := [] })
    (fun l x W K hK => by
      have : ((#[p].zip #[enc x]).foldl (fun t (y : Nat × Value) => t.setIfInBounds y.1 y.2) a.tmps) = a.tmps.setIfInBounds p (enc x) := by simp
      rw [this]
      exact assign1 hp hK)
    hbody hdone hstop
end Go.Proofs.Ytmplhchplehhlaa
