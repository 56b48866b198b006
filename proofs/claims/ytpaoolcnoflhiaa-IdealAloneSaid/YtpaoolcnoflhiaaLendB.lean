/-
  WALKS of what the statements share: lists of structs of three integers, held against each other; kept.
-/
import Derived.Test.YtpaoolcnoflhiaaLend
import Derived.Test.YtpaoolcnoflhiaaDep
namespace Go.Proofs.Ytpaoolcnoflhiaa
open Go.RowKit
attribute [local go_sem] depUpon Sp.ok

theorem trip_ne {p1 p2 p3 q1 q2 q3 : Int} (h : (p1, p2, p3) ≠ (q1, q2, q3)) : p1 ≠ q1 ∨ (p1 = q1 ∧ p2 ≠ q2) ∨ (p1 = q1 ∧ p2 = q2 ∧ p3 ≠ q3) := by
  by_cases h1 : p1 = q1
  · by_cases h2 : p2 = q2
    · by_cases h3 : p3 = q3
      · exact absurd (by rw [h1, h2, h3]) h
      · exact .inr (.inr ⟨h1, h2, h3⟩)
    · exact .inr (.inl ⟨h1, h2⟩)
  · exact .inl h1

end Go.Proofs.Ytpaoolcnoflhiaa
