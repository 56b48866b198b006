/-
  No cell of these rows narrows 'for every input' (looked for: loops, veiled, ifaces, maps, wideKeys, modest, calm, conditions, laid).
  DERIVED. THE GIVEN ROWS OF THIS SEAT. 5 by the template 'for every input the law returns true; each argument reads behind the call as it read before'; 0 by the template 'total and deterministic' (their statements: YtdninhdabeddeaaTotals.lean).
  GIVEN WITH THE SEED: the statements are not yours to turn. If you find one false, say at which input.
  Laid BY PROGRAM, IN A SANDBOX (cutbox-rows.mjs): the forced cells as the released guide's own fill.sh prints them over the translation 28bd0cb198bd51a7… (all of the seat's roots in one cut). By AI agents, Wed Nov 11 2026. No macro, syntax, notation, axiom, sorry.
-/
import Derived.Test.YtdninhdabeddeaaChecked
import GoSem.Claim
import GoSem.ClaimJoined
import GoSem.ClaimMapViews
import Derived.JoinedTies
import Derived.KernelRfl
namespace Go.Proofs.Ytdninhdabeddeaa
/- THE CELL 'sum', in the pinned program and in every row, IS THE sha256 OF THE DUMP (.gsa) THAT YtdninhdabeddeaaProg.lean LOADS. Nothing in Lean hashes anything: it is a label: what it is worth is what the hold of that sum in a sandbox is worth. -/
noncomputable def Try.pinned : Pinned := { name := "ytdninhdabeddeaa", sum := "28bd0cb198bd51a7f60bfd2d9d7238b3fb0ee009c1c52396601a781eab44b728", checked := Try.checked }
namespace Rows
def none {H : Type} : Left H := { results := [], args := [] }

/-- 'coxswainlaw18.AdmitTells': WHATEVER THE INPUT: true; the input reads as it did. -/
def admitTellsSpec : ChangeSpec := { name := "admitTells", fn := fun _ => fun
  | [d1, d2] => { results := [.lit (.bool true)], args := [d1, d2] }
  | _ => none }
def admitTellsRow : OpenClaim := { program := "ytdninhdabeddeaa", sum := "28bd0cb198bd51a7f60bfd2d9d7238b3fb0ee009c1c52396601a781eab44b728", func := "coxswain/coxswainlaw18.AdmitTells", spec := "admitTells", unfollowed := true, recurses := true, apart := false }
def AdmitTellsSaid : Prop := admitTellsRow.holds Try.pinned (OpenSpec.ofChange admitTellsSpec)

/-- ITS FALSE NEIGHBOUR: 'it returns false'. Refute it at one input. -/
def admitTellsWrong : ChangeSpec := { name := "admitTells", fn := fun _ => fun
  | [d1, d2] => { results := [.lit (.bool false)], args := [d1, d2] }
  | _ => none }
def AdmitTellsWrongFalsely : Prop := admitTellsRow.holds Try.pinned (OpenSpec.ofChange admitTellsWrong)

/-- 'coxswainlaw18.AdmitLess': WHATEVER THE INPUT: true; the input reads as it did. -/
def admitLessSpec : ChangeSpec := { name := "admitLess", fn := fun _ => fun
  | [d1, d2] => { results := [.lit (.bool true)], args := [d1, d2] }
  | _ => none }
def admitLessRow : OpenClaim := { program := "ytdninhdabeddeaa", sum := "28bd0cb198bd51a7f60bfd2d9d7238b3fb0ee009c1c52396601a781eab44b728", func := "coxswain/coxswainlaw18.AdmitLess", spec := "admitLess", unfollowed := true, recurses := true, apart := false }
def AdmitLessSaid : Prop := admitLessRow.holds Try.pinned (OpenSpec.ofChange admitLessSpec)

/-- ITS FALSE NEIGHBOUR: 'it returns false'. Refute it at one input. -/
def admitLessWrong : ChangeSpec := { name := "admitLess", fn := fun _ => fun
  | [d1, d2] => { results := [.lit (.bool false)], args := [d1, d2] }
  | _ => none }
def AdmitLessWrongFalsely : Prop := admitLessRow.holds Try.pinned (OpenSpec.ofChange admitLessWrong)

/-- 'coxswainlaw18.AdmitBest': WHATEVER THE INPUT: true; the input reads as it did. -/
def admitBestSpec : ChangeSpec := { name := "admitBest", fn := fun _ => fun
  | [d1, d2] => { results := [.lit (.bool true)], args := [d1, d2] }
  | _ => none }
def admitBestRow : OpenClaim := { program := "ytdninhdabeddeaa", sum := "28bd0cb198bd51a7f60bfd2d9d7238b3fb0ee009c1c52396601a781eab44b728", func := "coxswain/coxswainlaw18.AdmitBest", spec := "admitBest", unfollowed := true, recurses := true, apart := false }
def AdmitBestSaid : Prop := admitBestRow.holds Try.pinned (OpenSpec.ofChange admitBestSpec)

/-- ITS FALSE NEIGHBOUR: 'it returns false'. Refute it at one input. -/
def admitBestWrong : ChangeSpec := { name := "admitBest", fn := fun _ => fun
  | [d1, d2] => { results := [.lit (.bool false)], args := [d1, d2] }
  | _ => none }
def AdmitBestWrongFalsely : Prop := admitBestRow.holds Try.pinned (OpenSpec.ofChange admitBestWrong)

/-- 'coxswainlaw18.AdmitBlocks': WHATEVER THE INPUT: true; the input reads as it did. -/
def admitBlocksSpec : ChangeSpec := { name := "admitBlocks", fn := fun _ => fun
  | [d] => { results := [.lit (.bool true)], args := [d] }
  | _ => none }
def admitBlocksRow : OpenClaim := { program := "ytdninhdabeddeaa", sum := "28bd0cb198bd51a7f60bfd2d9d7238b3fb0ee009c1c52396601a781eab44b728", func := "coxswain/coxswainlaw18.AdmitBlocks", spec := "admitBlocks", unfollowed := true, recurses := true, apart := false }
def AdmitBlocksSaid : Prop := admitBlocksRow.holds Try.pinned (OpenSpec.ofChange admitBlocksSpec)

/-- ITS FALSE NEIGHBOUR: 'it returns false'. Refute it at one input. -/
def admitBlocksWrong : ChangeSpec := { name := "admitBlocks", fn := fun _ => fun
  | [d] => { results := [.lit (.bool false)], args := [d] }
  | _ => none }
def AdmitBlocksWrongFalsely : Prop := admitBlocksRow.holds Try.pinned (OpenSpec.ofChange admitBlocksWrong)

/-- 'coxswainlaw18.AdmitAhead': WHATEVER THE INPUT: true; the input reads as it did. -/
def admitAheadSpec : ChangeSpec := { name := "admitAhead", fn := fun _ => fun
  | [d1, d2, d3] => { results := [.lit (.bool true)], args := [d1, d2, d3] }
  | _ => none }
def admitAheadRow : OpenClaim := { program := "ytdninhdabeddeaa", sum := "28bd0cb198bd51a7f60bfd2d9d7238b3fb0ee009c1c52396601a781eab44b728", func := "coxswain/coxswainlaw18.AdmitAhead", spec := "admitAhead", unfollowed := true, recurses := true, apart := false }
def AdmitAheadSaid : Prop := admitAheadRow.holds Try.pinned (OpenSpec.ofChange admitAheadSpec)

/-- ITS FALSE NEIGHBOUR: 'it returns false'. Refute it at one input. -/
def admitAheadWrong : ChangeSpec := { name := "admitAhead", fn := fun _ => fun
  | [d1, d2, d3] => { results := [.lit (.bool false)], args := [d1, d2, d3] }
  | _ => none }
def AdmitAheadWrongFalsely : Prop := admitAheadRow.holds Try.pinned (OpenSpec.ofChange admitAheadWrong)

/- THE SECOND FORM. 'bulk': how many values and letters a reading holds, each counted each time it is reached (what is shared counts as often as it is met; a slice's spare places count too). A statement '..UptoSaid' is the law's where the arguments, and the package variables that the reading takes, are together of bulk at most 1048576: NARROWER than '..Said'. Prove '..Said' where nothing that the law and all that it calls make is longer than what came in: it says more and counts as full. Else prove '..UptoSaid'. A law counts once. -/
mutual
def uptoBulk {H : Type} : DataW H → Nat
  | .lit (.string bytes) => bytes.length + 1
  | .lit _ => 1
  | .nil => 1
  | .ptr d => uptoBulk d + 1
  | .slice elems spare => uptoBulkAll elems + uptoBulkAll spare + 1
  | .agg parts => uptoBulkAll parts + 1
  | .iface _ d => uptoBulk d + 1
  | .map entries => uptoBulkEntries entries + 1
  | .held _ => 1
def uptoBulkAll {H : Type} : List (DataW H) → Nat
  | [] => 0
  | d :: r => uptoBulk d + uptoBulkAll r
def uptoBulkEntries {H : Type} : List (Lit × DataW H) → Nat
  | [] => 0
  | x :: r => uptoBulkEntry x + uptoBulkEntries r
def uptoBulkEntry {H : Type} : Lit × DataW H → Nat
  | (.string bytes, d) => bytes.length + uptoBulk d + 1
  | (_, d) => uptoBulk d + 1
 end
def uptoSmall : (H : Type) → List (DataW H) → Bool := fun _ ds => decide (uptoBulkAll ds ≤ 1048576)
def OpenSpec.upto (s : _root_.Go.ChangeSpec) : _root_.Go.OpenSpec := { _root_.Go.OpenSpec.ofChange s with cond := some uptoSmall }

/-- 'coxswainlaw18.AdmitTells', WHERE WHAT IT READS IS OF BULK AT MOST 1048576: true; the input reads as it did. -/
def admitTellsUptoRow : OpenClaim := { program := "ytdninhdabeddeaa", sum := "28bd0cb198bd51a7f60bfd2d9d7238b3fb0ee009c1c52396601a781eab44b728", func := "coxswain/coxswainlaw18.AdmitTells", spec := "admitTells", unfollowed := true, recurses := true, apart := false, narrowed := true }
def AdmitTellsUptoSaid : Prop := admitTellsUptoRow.holds Try.pinned (OpenSpec.upto admitTellsSpec)

/-- 'coxswainlaw18.AdmitLess', WHERE WHAT IT READS IS OF BULK AT MOST 1048576: true; the input reads as it did. -/
def admitLessUptoRow : OpenClaim := { program := "ytdninhdabeddeaa", sum := "28bd0cb198bd51a7f60bfd2d9d7238b3fb0ee009c1c52396601a781eab44b728", func := "coxswain/coxswainlaw18.AdmitLess", spec := "admitLess", unfollowed := true, recurses := true, apart := false, narrowed := true }
def AdmitLessUptoSaid : Prop := admitLessUptoRow.holds Try.pinned (OpenSpec.upto admitLessSpec)

/-- 'coxswainlaw18.AdmitBest', WHERE WHAT IT READS IS OF BULK AT MOST 1048576: true; the input reads as it did. -/
def admitBestUptoRow : OpenClaim := { program := "ytdninhdabeddeaa", sum := "28bd0cb198bd51a7f60bfd2d9d7238b3fb0ee009c1c52396601a781eab44b728", func := "coxswain/coxswainlaw18.AdmitBest", spec := "admitBest", unfollowed := true, recurses := true, apart := false, narrowed := true }
def AdmitBestUptoSaid : Prop := admitBestUptoRow.holds Try.pinned (OpenSpec.upto admitBestSpec)

/-- 'coxswainlaw18.AdmitBlocks', WHERE WHAT IT READS IS OF BULK AT MOST 1048576: true; the input reads as it did. -/
def admitBlocksUptoRow : OpenClaim := { program := "ytdninhdabeddeaa", sum := "28bd0cb198bd51a7f60bfd2d9d7238b3fb0ee009c1c52396601a781eab44b728", func := "coxswain/coxswainlaw18.AdmitBlocks", spec := "admitBlocks", unfollowed := true, recurses := true, apart := false, narrowed := true }
def AdmitBlocksUptoSaid : Prop := admitBlocksUptoRow.holds Try.pinned (OpenSpec.upto admitBlocksSpec)

/-- 'coxswainlaw18.AdmitAhead', WHERE WHAT IT READS IS OF BULK AT MOST 1048576: true; the input reads as it did. -/
def admitAheadUptoRow : OpenClaim := { program := "ytdninhdabeddeaa", sum := "28bd0cb198bd51a7f60bfd2d9d7238b3fb0ee009c1c52396601a781eab44b728", func := "coxswain/coxswainlaw18.AdmitAhead", spec := "admitAhead", unfollowed := true, recurses := true, apart := false, narrowed := true }
def AdmitAheadUptoSaid : Prop := admitAheadUptoRow.holds Try.pinned (OpenSpec.upto admitAheadSpec)

end Rows
end Go.Proofs.Ytdninhdabeddeaa
