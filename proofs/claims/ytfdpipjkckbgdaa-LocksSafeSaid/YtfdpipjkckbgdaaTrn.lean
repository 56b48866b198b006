/-
  WHAT A CALL LEAVES: Tr (the same text as at the head of FrmA, for seats without frames).
-/
import Derived.Test.YtfdpipjkckbgdaaAppG
import Derived.Test.YtfdpipjkckbgdaaOver
import Derived.Test.YtfdpipjkckbgdaaOpn
import Derived.BigQuiet
import Derived.Deep.CutRange
import Derived.Deep.CutBlock
import Derived.Laws.IdiomCopy
namespace Go.Proofs.Ytfdpipjkckbgdaa
open Go.RowKit
attribute [local go_sem] depUpon Sp.ok

theorem setCell_grown (w : World) (p : Addr) (v : Value) : w.grownBy (w.setCell p v) (some p.block) := ⟨rfl, rfl, rfl, by simp, fun j _ hj => heap_setCell_other w p j v (fun q => hj (by rw [q]))⟩
theorem row_ne {w : World} {B g n c size : Nat} {e t : TypeId} {A : Option Addr} {xs ys : List Value} (h : Row w B e size A n c xs) (ho : Own w g t ys) (ht : e ≠ t) : ∀ b, blk A = some b → b ≠ g := by
  intro b hb e'
  subst e'
  rcases h.2 with ⟨hv, _⟩ | ⟨g', cap, cur, hv, _, hc, _⟩
  · injection hv with e1 e2 e3
    subst e1; cases hb
  · injection hv with e1 e2 e3
    subst e1
    have : g' = b := by simpa [blk] using hb
    subst this
    have := hc.symm.trans ho
    injection this with this
    injection this with _ e2 _
    exact ht e2
theorem own_ne {w : World} {g g' : Nat} {t t' : TypeId} {xs ys : List Value} (h : Own w g t xs) (h' : Own w g' t' ys) (ht : t ≠ t') : g ≠ g' := by
  intro e
  subst e
  have := Option.some.inj (h.symm.trans h')
  injection this with _ e2 _
  exact ht e2
/-- What a call leaves: nothing but the blocks P has turned; what it has then is P'. -/
structure Tr (w w' : World) (P P' : Nat → Prop) : Prop where
  base : Below 0 w w'
  block : ∀ i, i < w.heap.size → ¬ P i → w'.heap[i]? = w.heap[i]?
  fr : ∀ i, P' i → P i ∨ w.heap.size ≤ i
section
variable {w w' w'' : World} {P P' P'' : Nat → Prop}
theorem Tr.ext (h : Ext w w') : Tr w w' P P := ⟨h.mono (Nat.zero_le _), fun i hi _ => h.block i hi, fun _ hk => .inl hk⟩
theorem Tr.refl : Tr w w P P := Tr.ext (Ext.refl w)
theorem Tr.trans (a : Tr w w' P P') (b : Tr w' w'' P' P'') : Tr w w'' P P'' := by
  refine ⟨Below.trans a.base b.base, fun i hi hP => ?_, fun i hi => ?_⟩
  · rw [b.block i (Nat.lt_of_lt_of_le hi a.base.size) (fun q => ?_), a.block i hi hP]
    rcases a.fr i q with q | q
    · exact hP q
    · omega
  · rcases b.fr i hi with q | q
    · exact a.fr i q
    · exact .inr (Nat.le_trans a.base.size q)
theorem Tr.grown {row : Option Nat} (h : w.grownBy w' row) (hr : ∀ g, row = some g → P g ∨ w.heap.size ≤ g) : Tr w w' P P := by
  refine ⟨⟨h.os, h.tape, h.output, h.size, fun i hi => by omega⟩, fun i hi hP => h.block i hi (fun q => ?_), fun _ hk => .inl hk⟩
  rcases hr i q.symm with q | q
  · exact hP q
  · omega
theorem Tr.set (p : Addr) (v : Value) (hp : P p.block) : Tr w (w.setCell p v) P P := Tr.grown (setCell_grown w p v) (fun g q => .inl (by injection q with q; rw [← q]; exact hp))
theorem Tr.mono (a : Tr w w' P P') {Q Q' : Nat → Prop} (h1 : ∀ i, P i → Q i) (h2 : ∀ i, Q' i → P' i ∨ Q i ∨ w.heap.size ≤ i) : Tr w w' Q Q' :=
  ⟨a.base, fun i hi hQ => a.block i hi (fun q => hQ (h1 i q)), fun i hi => by
    rcases h2 i hi with q | q | q
    · rcases a.fr i q with q | q
      · exact .inl (h1 i q)
      · exact .inr q
    · exact .inl q
    · exact .inr q⟩
theorem Tr.own (a : Tr w w' P P') {i : Nat} {t : TypeId} {xs : List Value} (h : Own w i t xs) (hP : ¬ P i) : Own w' i t xs := (a.block i h.lt hP).trans h
theorem Tr.row (a : Tr w w' P P') {b m c size : Nat} {e : TypeId} {A : Option Addr} {xs : List Value} (h : Row w b e size A m c xs) (hP : ∀ i, blk A = some i → ¬ P i) : Row w' b e size A m c xs := by
  refine ⟨h.1, ?_⟩
  rcases h.2 with hn | ⟨g', cap, cur, hv, hb, hc, rest⟩
  · exact .inl hn
  · refine .inr ⟨g', cap, cur, hv, hb, ?_, rest⟩
    injection hv with e1 e2 e3
    rw [a.block g' (Array.getElem?_eq_some_iff.1 hc).1 (hP g' (by rw [e1]; rfl))]
    exact hc
theorem Tr.below (a : Tr w w' P P') {B : Nat} (hB : B ≤ w.heap.size) (hP : ∀ i, P i → B ≤ i) : Below B w w' :=
  ⟨a.base.os, a.base.tape, a.base.output, a.base.size, fun i hi => a.block i (by omega) (fun q => by have := hP i q; omega)⟩
theorem Tr.lo (a : Tr w w' P P') {B : Nat} (hB : B ≤ w.heap.size) (hP : ∀ i, P i → B ≤ i) : ∀ i, P' i → B ≤ i := fun i hi => by
  rcases a.fr i hi with q | q
  · exact hP i q
  · omega
theorem Tr.apart (a : Tr w w' P P') {Q : Nat → Prop} (hQ : ∀ i, Q i → ¬ P i) (hl : ∀ i, Q i → i < w.heap.size) : ∀ i, Q i → ¬ P' i := fun i hi q => by
  rcases a.fr i q with q | q
  · exact hQ i hi q
  · have := hl i hi; omega
end

end Go.Proofs.Ytfdpipjkckbgdaa
