/-
  WALKS of the statements on prio, chapter 7: PrioCompares.
-/
import Derived.Test.YtpaoolcnoflhiaaPrioC
namespace Go.Proofs.Ytpaoolcnoflhiaa
open Go.RowKit
attribute [local go_sem] depUpon Sp.ok

end Go.Proofs.Ytpaoolcnoflhiaa
