/-
  No cell of these rows narrows 'for every input' (looked for: loops, veiled, ifaces, maps, wideKeys, modest, calm, conditions, laid).
  DERIVED. THE GIVEN ROWS OF THIS SEAT. 5 by the template 'for every input the law returns true; each argument reads behind the call as it read before'; 0 by the template 'total and deterministic' (their statements: YtlmpmlhmndegdaaTotals.lean).
  GIVEN WITH THE SEED: the statements are not yours to turn. If you find one false, say at which input.
  Laid BY PROGRAM, IN A SANDBOX (cutbox-rows.mjs): the forced cells as the released guide's own fill.sh prints them over the translation aba1136d46bc1fca… (all of the seat's roots in one cut). By AI agents, Wed Nov 11 2026. No macro, syntax, notation, axiom, sorry.
-/
import Derived.Test.YtlmpmlhmndegdaaChecked
import GoSem.Claim
import GoSem.ClaimJoined
import GoSem.ClaimMapViews
import Derived.JoinedTies
import Derived.KernelRfl
namespace Go.Proofs.Ytlmpmlhmndegdaa
/- THE CELL 'sum', in the pinned program and in every row, IS THE sha256 OF THE DUMP (.gsa) THAT YtlmpmlhmndegdaaProg.lean LOADS. Nothing in Lean hashes anything: it is a label: what it is worth is what the hold of that sum in a sandbox is worth. -/
noncomputable def Try.pinned : Pinned := { name := "ytlmpmlhmndegdaa", sum := "aba1136d46bc1fcacc5b23ff4222519d6ca284c532edfa75f1fd342a8329c268", checked := Try.checked }
namespace Rows
def none {H : Type} : Left H := { results := [], args := [] }

/-- 'coxswainlaw11.GraphCounts': WHATEVER THE INPUT: true; the input reads as it did. -/
def graphCountsSpec : ChangeSpec := { name := "graphCounts", fn := fun _ => fun
  | [d1, d2, d3] => { results := [.lit (.bool true)], args := [d1, d2, d3] }
  | _ => none }
def graphCountsRow : OpenClaim := { program := "ytlmpmlhmndegdaa", sum := "aba1136d46bc1fcacc5b23ff4222519d6ca284c532edfa75f1fd342a8329c268", func := "coxswain/coxswainlaw11.GraphCounts", spec := "graphCounts", unfollowed := true, recurses := true, apart := false }
def GraphCountsSaid : Prop := graphCountsRow.holds Try.pinned (OpenSpec.ofChange graphCountsSpec)

/-- ITS FALSE NEIGHBOUR: 'it returns false'. Refute it at one input. -/
def graphCountsWrong : ChangeSpec := { name := "graphCounts", fn := fun _ => fun
  | [d1, d2, d3] => { results := [.lit (.bool false)], args := [d1, d2, d3] }
  | _ => none }
def GraphCountsWrongFalsely : Prop := graphCountsRow.holds Try.pinned (OpenSpec.ofChange graphCountsWrong)

/-- 'coxswainlaw11.GraphFixed': WHATEVER THE INPUT: true; the input reads as it did. -/
def graphFixedSpec : ChangeSpec := { name := "graphFixed", fn := fun _ => fun
  | [d1, d2, d3] => { results := [.lit (.bool true)], args := [d1, d2, d3] }
  | _ => none }
def graphFixedRow : OpenClaim := { program := "ytlmpmlhmndegdaa", sum := "aba1136d46bc1fcacc5b23ff4222519d6ca284c532edfa75f1fd342a8329c268", func := "coxswain/coxswainlaw11.GraphFixed", spec := "graphFixed", unfollowed := true, recurses := true, apart := false }
def GraphFixedSaid : Prop := graphFixedRow.holds Try.pinned (OpenSpec.ofChange graphFixedSpec)

/-- ITS FALSE NEIGHBOUR: 'it returns false'. Refute it at one input. -/
def graphFixedWrong : ChangeSpec := { name := "graphFixed", fn := fun _ => fun
  | [d1, d2, d3] => { results := [.lit (.bool false)], args := [d1, d2, d3] }
  | _ => none }
def GraphFixedWrongFalsely : Prop := graphFixedRow.holds Try.pinned (OpenSpec.ofChange graphFixedWrong)

/-- 'coxswainlaw11.GraphMore': WHATEVER THE INPUT: true; the input reads as it did. -/
def graphMoreSpec : ChangeSpec := { name := "graphMore", fn := fun _ => fun
  | [d1, d2, d3, d4, d5] => { results := [.lit (.bool true)], args := [d1, d2, d3, d4, d5] }
  | _ => none }
def graphMoreRow : OpenClaim := { program := "ytlmpmlhmndegdaa", sum := "aba1136d46bc1fcacc5b23ff4222519d6ca284c532edfa75f1fd342a8329c268", func := "coxswain/coxswainlaw11.GraphMore", spec := "graphMore", unfollowed := true, recurses := true, apart := false }
def GraphMoreSaid : Prop := graphMoreRow.holds Try.pinned (OpenSpec.ofChange graphMoreSpec)

/-- ITS FALSE NEIGHBOUR: 'it returns false'. Refute it at one input. -/
def graphMoreWrong : ChangeSpec := { name := "graphMore", fn := fun _ => fun
  | [d1, d2, d3, d4, d5] => { results := [.lit (.bool false)], args := [d1, d2, d3, d4, d5] }
  | _ => none }
def GraphMoreWrongFalsely : Prop := graphMoreRow.holds Try.pinned (OpenSpec.ofChange graphMoreWrong)

/-- 'coxswainlaw11.GraphTells': WHATEVER THE INPUT: true; the input reads as it did. -/
def graphTellsSpec : ChangeSpec := { name := "graphTells", fn := fun _ => fun
  | [d1, d2, d3, d4] => { results := [.lit (.bool true)], args := [d1, d2, d3, d4] }
  | _ => none }
def graphTellsRow : OpenClaim := { program := "ytlmpmlhmndegdaa", sum := "aba1136d46bc1fcacc5b23ff4222519d6ca284c532edfa75f1fd342a8329c268", func := "coxswain/coxswainlaw11.GraphTells", spec := "graphTells", unfollowed := true, recurses := true, apart := false }
def GraphTellsSaid : Prop := graphTellsRow.holds Try.pinned (OpenSpec.ofChange graphTellsSpec)

/-- ITS FALSE NEIGHBOUR: 'it returns false'. Refute it at one input. -/
def graphTellsWrong : ChangeSpec := { name := "graphTells", fn := fun _ => fun
  | [d1, d2, d3, d4] => { results := [.lit (.bool false)], args := [d1, d2, d3, d4] }
  | _ => none }
def GraphTellsWrongFalsely : Prop := graphTellsRow.holds Try.pinned (OpenSpec.ofChange graphTellsWrong)

/-- 'coxswainlaw11.GraphAlone': WHATEVER THE INPUT: true; the input reads as it did. -/
def graphAloneSpec : ChangeSpec := { name := "graphAlone", fn := fun _ => fun
  | [d1, d2, d3, d4] => { results := [.lit (.bool true)], args := [d1, d2, d3, d4] }
  | _ => none }
def graphAloneRow : OpenClaim := { program := "ytlmpmlhmndegdaa", sum := "aba1136d46bc1fcacc5b23ff4222519d6ca284c532edfa75f1fd342a8329c268", func := "coxswain/coxswainlaw11.GraphAlone", spec := "graphAlone", unfollowed := true, recurses := true, apart := false }
def GraphAloneSaid : Prop := graphAloneRow.holds Try.pinned (OpenSpec.ofChange graphAloneSpec)

/-- ITS FALSE NEIGHBOUR: 'it returns false'. Refute it at one input. -/
def graphAloneWrong : ChangeSpec := { name := "graphAlone", fn := fun _ => fun
  | [d1, d2, d3, d4] => { results := [.lit (.bool false)], args := [d1, d2, d3, d4] }
  | _ => none }
def GraphAloneWrongFalsely : Prop := graphAloneRow.holds Try.pinned (OpenSpec.ofChange graphAloneWrong)

/- THE SECOND FORM. 'bulk': how many values and letters a reading holds, each counted each time it is reached (what is shared counts as often as it is met; a slice's spare places count too). A statement '..UptoSaid' is the law's where the arguments, and the package variables that the reading takes, are together of bulk at most 1048576: NARROWER than '..Said'. Prove '..Said' where nothing that the law and all that it calls make is longer than what came in: it says more and counts as full. Else prove '..UptoSaid'. A law counts once. -/
mutual
def uptoBulk {H : Type} : DataW H → Nat
  | .lit (.string bytes) => bytes.length + 1
  | .lit _ => 1
  | .nil => 1
  | .ptr d => uptoBulk d + 1
  | .slice elems spare => uptoBulkAll elems + uptoBulkAll spare + 1
  | .agg parts => uptoBulkAll parts + 1
  | .iface _ d => uptoBulk d + 1
  | .map entries => uptoBulkEntries entries + 1
  | .held _ => 1
def uptoBulkAll {H : Type} : List (DataW H) → Nat
  | [] => 0
  | d :: r => uptoBulk d + uptoBulkAll r
def uptoBulkEntries {H : Type} : List (Lit × DataW H) → Nat
  | [] => 0
  | x :: r => uptoBulkEntry x + uptoBulkEntries r
def uptoBulkEntry {H : Type} : Lit × DataW H → Nat
  | (.string bytes, d) => bytes.length + uptoBulk d + 1
  | (_, d) => uptoBulk d + 1
 end
def uptoSmall : (H : Type) → List (DataW H) → Bool := fun _ ds => decide (uptoBulkAll ds ≤ 1048576)
def OpenSpec.upto (s : _root_.Go.ChangeSpec) : _root_.Go.OpenSpec := { _root_.Go.OpenSpec.ofChange s with cond := some uptoSmall }

/-- 'coxswainlaw11.GraphCounts', WHERE WHAT IT READS IS OF BULK AT MOST 1048576: true; the input reads as it did. -/
def graphCountsUptoRow : OpenClaim := { program := "ytlmpmlhmndegdaa", sum := "aba1136d46bc1fcacc5b23ff4222519d6ca284c532edfa75f1fd342a8329c268", func := "coxswain/coxswainlaw11.GraphCounts", spec := "graphCounts", unfollowed := true, recurses := true, apart := false, narrowed := true }
def GraphCountsUptoSaid : Prop := graphCountsUptoRow.holds Try.pinned (OpenSpec.upto graphCountsSpec)

/-- 'coxswainlaw11.GraphFixed', WHERE WHAT IT READS IS OF BULK AT MOST 1048576: true; the input reads as it did. -/
def graphFixedUptoRow : OpenClaim := { program := "ytlmpmlhmndegdaa", sum := "aba1136d46bc1fcacc5b23ff4222519d6ca284c532edfa75f1fd342a8329c268", func := "coxswain/coxswainlaw11.GraphFixed", spec := "graphFixed", unfollowed := true, recurses := true, apart := false, narrowed := true }
def GraphFixedUptoSaid : Prop := graphFixedUptoRow.holds Try.pinned (OpenSpec.upto graphFixedSpec)

/-- 'coxswainlaw11.GraphMore', WHERE WHAT IT READS IS OF BULK AT MOST 1048576: true; the input reads as it did. -/
def graphMoreUptoRow : OpenClaim := { program := "ytlmpmlhmndegdaa", sum := "aba1136d46bc1fcacc5b23ff4222519d6ca284c532edfa75f1fd342a8329c268", func := "coxswain/coxswainlaw11.GraphMore", spec := "graphMore", unfollowed := true, recurses := true, apart := false, narrowed := true }
def GraphMoreUptoSaid : Prop := graphMoreUptoRow.holds Try.pinned (OpenSpec.upto graphMoreSpec)

/-- 'coxswainlaw11.GraphTells', WHERE WHAT IT READS IS OF BULK AT MOST 1048576: true; the input reads as it did. -/
def graphTellsUptoRow : OpenClaim := { program := "ytlmpmlhmndegdaa", sum := "aba1136d46bc1fcacc5b23ff4222519d6ca284c532edfa75f1fd342a8329c268", func := "coxswain/coxswainlaw11.GraphTells", spec := "graphTells", unfollowed := true, recurses := true, apart := false, narrowed := true }
def GraphTellsUptoSaid : Prop := graphTellsUptoRow.holds Try.pinned (OpenSpec.upto graphTellsSpec)

/-- 'coxswainlaw11.GraphAlone', WHERE WHAT IT READS IS OF BULK AT MOST 1048576: true; the input reads as it did. -/
def graphAloneUptoRow : OpenClaim := { program := "ytlmpmlhmndegdaa", sum := "aba1136d46bc1fcacc5b23ff4222519d6ca284c532edfa75f1fd342a8329c268", func := "coxswain/coxswainlaw11.GraphAlone", spec := "graphAlone", unfollowed := true, recurses := true, apart := false, narrowed := true }
def GraphAloneUptoSaid : Prop := graphAloneUptoRow.holds Try.pinned (OpenSpec.upto graphAloneSpec)

end Rows
end Go.Proofs.Ytlmpmlhmndegdaa
