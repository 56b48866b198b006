/-
  WALKS of the reference of chapter 11: Effective; Acyclic of both; what the statements share.
-/
import Derived.Test.YtpaoolcnoflhiaaGphE
import Derived.Test.YtpaoolcnoflhiaaLendB
namespace Go.Proofs.Ytpaoolcnoflhiaa
open Go.RowKit
attribute [local go_sem] depUpon Sp.ok

theorem effAt_step (base : List P3) (ch : Nat → List Int) (j i : Nat) (hj : j < base.length) : effAt base ch (j + 1) i = if (i : Int) ∈ ch j then pmaxStep (effAt base ch j i) base[j] else effAt base ch j i := by
  rw [effAt]; simp [hj]

end Go.Proofs.Ytpaoolcnoflhiaa
