/-
  WALKS of the statements on prio, chapter 7: PrioCompares.
-/
import Derived.Test.YtlmpmlhmndegdaaPrioC
namespace Go.Proofs.Ytlmpmlhmndegdaa
open Go.RowKit
attribute [local go_sem] depUpon Sp.ok

end Go.Proofs.Ytlmpmlhmndegdaa
