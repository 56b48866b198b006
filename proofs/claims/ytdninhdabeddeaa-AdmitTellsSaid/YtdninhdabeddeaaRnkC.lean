/-
  WALKS of package rank: May; the reference of chapter 10.
-/
import Derived.Test.YtdninhdabeddeaaRnkB
namespace Go.Proofs.Ytdninhdabeddeaa
open Go.RowKit
attribute [local go_sem] depUpon Sp.ok

def manyB (ms : List (Int × Int)) (r : Int) (hs : List Int) : Bool := hs.any fun h => decide (r ≤ (mget ms h).1)

def mmay (ms : List (Int × Int)) (hs : List Int) (m : Int) : Int := if (mget ms m).1 = 0 then 19 else if manyB ms (mget ms m).1 hs = true then 7 else 0

end Go.Proofs.Ytdninhdabeddeaa
