/-
  WALKS of package prio and of chapter 7's reference: May.
-/
import Derived.Test.YtpaoolcnoflhiaaPrioA
namespace Go.Proofs.Ytpaoolcnoflhiaa
open Go.RowKit
attribute [local go_sem] depUpon Sp.ok

theorem may_of {a1 a2 a3 : Int} {p : Prop} [Decidable p] (h : pmay a1 a2 a3 = decide p) : ∀ b : Bool, (b = true ↔ p) → Ending.returned (.bool b) = .returned (.bool (pmay a1 a2 a3)) := by
  intro b hb
  rw [h]
  refine ret_bool ?_
  rw [Bool.eq_iff_iff, hb]; simp

end Go.Proofs.Ytpaoolcnoflhiaa
