/-
  No cell of these rows narrows 'for every input' (looked for: loops, veiled, ifaces, maps, wideKeys, modest, calm, conditions, laid).
  DERIVED. THE GIVEN ROWS OF THIS SEAT. 6 by the template 'for every input the law returns true; each argument reads behind the call as it read before'; 0 by the template 'total and deterministic' (their statements: YtjipkgnkabocjaaTotals.lean).
  GIVEN WITH THE SEED: the statements are not yours to turn. If you find one false, say at which input.
  Laid BY PROGRAM, IN A SANDBOX (cutbox-rows.mjs): the forced cells as the released guide's own fill.sh prints them over the translation 2ab8853a1790de2c… (all of the seat's roots in one cut). By AI agents, Wed Nov 11 2026. No macro, syntax, notation, axiom, sorry.
-/
import Derived.Test.YtjipkgnkabocjaaChecked
import GoSem.Claim
import GoSem.ClaimJoined
import GoSem.ClaimMapViews
import Derived.JoinedTies
import Derived.KernelRfl
namespace Go.Proofs.Ytjipkgnkabocjaa
/- THE CELL 'sum', in the pinned program and in every row, IS THE sha256 OF THE DUMP (.gsa) THAT YtjipkgnkabocjaaProg.lean LOADS. Nothing in Lean hashes anything: it is a label: what it is worth is what the hold of that sum in a sandbox is worth. -/
noncomputable def Try.pinned : Pinned := { name := "ytjipkgnkabocjaa", sum := "2ab8853a1790de2cbf92b0f4ef28e3d955355ca8b680e286ebd2d3b96a42f241", checked := Try.checked }
namespace Rows
def none {H : Type} : Left H := { results := [], args := [] }

/-- 'coxswainlaw6.WheelOnce': WHATEVER THE INPUT: true; the input reads as it did. -/
def wheelOnceSpec : ChangeSpec := { name := "wheelOnce", fn := fun _ => fun
  | [d1, d2] => { results := [.lit (.bool true)], args := [d1, d2] }
  | _ => none }
def wheelOnceRow : OpenClaim := { program := "ytjipkgnkabocjaa", sum := "2ab8853a1790de2cbf92b0f4ef28e3d955355ca8b680e286ebd2d3b96a42f241", func := "coxswain/coxswainlaw6.WheelOnce", spec := "wheelOnce", unfollowed := true, recurses := true, apart := false }
def WheelOnceSaid : Prop := wheelOnceRow.holds Try.pinned (OpenSpec.ofChange wheelOnceSpec)

/-- ITS FALSE NEIGHBOUR: 'it returns false'. Refute it at one input. -/
def wheelOnceWrong : ChangeSpec := { name := "wheelOnce", fn := fun _ => fun
  | [d1, d2] => { results := [.lit (.bool false)], args := [d1, d2] }
  | _ => none }
def WheelOnceWrongFalsely : Prop := wheelOnceRow.holds Try.pinned (OpenSpec.ofChange wheelOnceWrong)

/-- 'coxswainlaw6.WheelMoves': WHATEVER THE INPUT: true; the input reads as it did. -/
def wheelMovesSpec : ChangeSpec := { name := "wheelMoves", fn := fun _ => fun
  | [d1, d2] => { results := [.lit (.bool true)], args := [d1, d2] }
  | _ => none }
def wheelMovesRow : OpenClaim := { program := "ytjipkgnkabocjaa", sum := "2ab8853a1790de2cbf92b0f4ef28e3d955355ca8b680e286ebd2d3b96a42f241", func := "coxswain/coxswainlaw6.WheelMoves", spec := "wheelMoves", unfollowed := true, recurses := true, apart := false }
def WheelMovesSaid : Prop := wheelMovesRow.holds Try.pinned (OpenSpec.ofChange wheelMovesSpec)

/-- ITS FALSE NEIGHBOUR: 'it returns false'. Refute it at one input. -/
def wheelMovesWrong : ChangeSpec := { name := "wheelMoves", fn := fun _ => fun
  | [d1, d2] => { results := [.lit (.bool false)], args := [d1, d2] }
  | _ => none }
def WheelMovesWrongFalsely : Prop := wheelMovesRow.holds Try.pinned (OpenSpec.ofChange wheelMovesWrong)

/-- 'coxswainlaw6.WheelAnew': WHATEVER THE INPUT: true; the input reads as it did. -/
def wheelAnewSpec : ChangeSpec := { name := "wheelAnew", fn := fun _ => fun
  | [d1, d2, d3] => { results := [.lit (.bool true)], args := [d1, d2, d3] }
  | _ => none }
def wheelAnewRow : OpenClaim := { program := "ytjipkgnkabocjaa", sum := "2ab8853a1790de2cbf92b0f4ef28e3d955355ca8b680e286ebd2d3b96a42f241", func := "coxswain/coxswainlaw6.WheelAnew", spec := "wheelAnew", unfollowed := true, recurses := true, apart := false }
def WheelAnewSaid : Prop := wheelAnewRow.holds Try.pinned (OpenSpec.ofChange wheelAnewSpec)

/-- ITS FALSE NEIGHBOUR: 'it returns false'. Refute it at one input. -/
def wheelAnewWrong : ChangeSpec := { name := "wheelAnew", fn := fun _ => fun
  | [d1, d2, d3] => { results := [.lit (.bool false)], args := [d1, d2, d3] }
  | _ => none }
def WheelAnewWrongFalsely : Prop := wheelAnewRow.holds Try.pinned (OpenSpec.ofChange wheelAnewWrong)

/-- 'coxswainlaw6.WheelCancel': WHATEVER THE INPUT: true; the input reads as it did. -/
def wheelCancelSpec : ChangeSpec := { name := "wheelCancel", fn := fun _ => fun
  | [d1, d2, d3] => { results := [.lit (.bool true)], args := [d1, d2, d3] }
  | _ => none }
def wheelCancelRow : OpenClaim := { program := "ytjipkgnkabocjaa", sum := "2ab8853a1790de2cbf92b0f4ef28e3d955355ca8b680e286ebd2d3b96a42f241", func := "coxswain/coxswainlaw6.WheelCancel", spec := "wheelCancel", unfollowed := true, recurses := true, apart := false }
def WheelCancelSaid : Prop := wheelCancelRow.holds Try.pinned (OpenSpec.ofChange wheelCancelSpec)

/-- ITS FALSE NEIGHBOUR: 'it returns false'. Refute it at one input. -/
def wheelCancelWrong : ChangeSpec := { name := "wheelCancel", fn := fun _ => fun
  | [d1, d2, d3] => { results := [.lit (.bool false)], args := [d1, d2, d3] }
  | _ => none }
def WheelCancelWrongFalsely : Prop := wheelCancelRow.holds Try.pinned (OpenSpec.ofChange wheelCancelWrong)

/-- 'coxswainlaw6.WheelScript': WHATEVER THE INPUT: true; the input reads as it did. -/
def wheelScriptSpec : ChangeSpec := { name := "wheelScript", fn := fun _ => fun
  | [d1, d2] => { results := [.lit (.bool true)], args := [d1, d2] }
  | _ => none }
def wheelScriptRow : OpenClaim := { program := "ytjipkgnkabocjaa", sum := "2ab8853a1790de2cbf92b0f4ef28e3d955355ca8b680e286ebd2d3b96a42f241", func := "coxswain/coxswainlaw6.WheelScript", spec := "wheelScript", unfollowed := true, recurses := true, apart := false }
def WheelScriptSaid : Prop := wheelScriptRow.holds Try.pinned (OpenSpec.ofChange wheelScriptSpec)

/-- ITS FALSE NEIGHBOUR: 'it returns false'. Refute it at one input. -/
def wheelScriptWrong : ChangeSpec := { name := "wheelScript", fn := fun _ => fun
  | [d1, d2] => { results := [.lit (.bool false)], args := [d1, d2] }
  | _ => none }
def WheelScriptWrongFalsely : Prop := wheelScriptRow.holds Try.pinned (OpenSpec.ofChange wheelScriptWrong)

/-- 'coxswainlaw6.WheelNone': WHATEVER THE INPUT: true; the input reads as it did. -/
def wheelNoneSpec : ChangeSpec := { name := "wheelNone", fn := fun _ => fun
  | [d] => { results := [.lit (.bool true)], args := [d] }
  | _ => none }
def wheelNoneRow : OpenClaim := { program := "ytjipkgnkabocjaa", sum := "2ab8853a1790de2cbf92b0f4ef28e3d955355ca8b680e286ebd2d3b96a42f241", func := "coxswain/coxswainlaw6.WheelNone", spec := "wheelNone", unfollowed := true, recurses := true, apart := false }
def WheelNoneSaid : Prop := wheelNoneRow.holds Try.pinned (OpenSpec.ofChange wheelNoneSpec)

/-- ITS FALSE NEIGHBOUR: 'it returns false'. Refute it at one input. -/
def wheelNoneWrong : ChangeSpec := { name := "wheelNone", fn := fun _ => fun
  | [d] => { results := [.lit (.bool false)], args := [d] }
  | _ => none }
def WheelNoneWrongFalsely : Prop := wheelNoneRow.holds Try.pinned (OpenSpec.ofChange wheelNoneWrong)

/- THE SECOND FORM. 'bulk': how many values and letters a reading holds, each counted each time it is reached (what is shared counts as often as it is met; a slice's spare places count too). A statement '..UptoSaid' is the law's where the arguments, and the package variables that the reading takes, are together of bulk at most 1048576: NARROWER than '..Said'. Prove '..Said' where nothing that the law and all that it calls make is longer than what came in: it says more and counts as full. Else prove '..UptoSaid'. A law counts once. -/
mutual
def uptoBulk {H : Type} : DataW H → Nat
  | .lit (.string bytes) => bytes.length + 1
  | .lit _ => 1
  | .nil => 1
  | .ptr d => uptoBulk d + 1
  | .slice elems spare => uptoBulkAll elems + uptoBulkAll spare + 1
  | .agg parts => uptoBulkAll parts + 1
  | .iface _ d => uptoBulk d + 1
  | .map entries => uptoBulkEntries entries + 1
  | .held _ => 1
def uptoBulkAll {H : Type} : List (DataW H) → Nat
  | [] => 0
  | d :: r => uptoBulk d + uptoBulkAll r
def uptoBulkEntries {H : Type} : List (Lit × DataW H) → Nat
  | [] => 0
  | x :: r => uptoBulkEntry x + uptoBulkEntries r
def uptoBulkEntry {H : Type} : Lit × DataW H → Nat
  | (.string bytes, d) => bytes.length + uptoBulk d + 1
  | (_, d) => uptoBulk d + 1
 end
def uptoSmall : (H : Type) → List (DataW H) → Bool := fun _ ds => decide (uptoBulkAll ds ≤ 1048576)
def OpenSpec.upto (s : _root_.Go.ChangeSpec) : _root_.Go.OpenSpec := { _root_.Go.OpenSpec.ofChange s with cond := some uptoSmall }

/-- 'coxswainlaw6.WheelOnce', WHERE WHAT IT READS IS OF BULK AT MOST 1048576: true; the input reads as it did. -/
def wheelOnceUptoRow : OpenClaim := { program := "ytjipkgnkabocjaa", sum := "2ab8853a1790de2cbf92b0f4ef28e3d955355ca8b680e286ebd2d3b96a42f241", func := "coxswain/coxswainlaw6.WheelOnce", spec := "wheelOnce", unfollowed := true, recurses := true, apart := false, narrowed := true }
def WheelOnceUptoSaid : Prop := wheelOnceUptoRow.holds Try.pinned (OpenSpec.upto wheelOnceSpec)

/-- 'coxswainlaw6.WheelMoves', WHERE WHAT IT READS IS OF BULK AT MOST 1048576: true; the input reads as it did. -/
def wheelMovesUptoRow : OpenClaim := { program := "ytjipkgnkabocjaa", sum := "2ab8853a1790de2cbf92b0f4ef28e3d955355ca8b680e286ebd2d3b96a42f241", func := "coxswain/coxswainlaw6.WheelMoves", spec := "wheelMoves", unfollowed := true, recurses := true, apart := false, narrowed := true }
def WheelMovesUptoSaid : Prop := wheelMovesUptoRow.holds Try.pinned (OpenSpec.upto wheelMovesSpec)

/-- 'coxswainlaw6.WheelAnew', WHERE WHAT IT READS IS OF BULK AT MOST 1048576: true; the input reads as it did. -/
def wheelAnewUptoRow : OpenClaim := { program := "ytjipkgnkabocjaa", sum := "2ab8853a1790de2cbf92b0f4ef28e3d955355ca8b680e286ebd2d3b96a42f241", func := "coxswain/coxswainlaw6.WheelAnew", spec := "wheelAnew", unfollowed := true, recurses := true, apart := false, narrowed := true }
def WheelAnewUptoSaid : Prop := wheelAnewUptoRow.holds Try.pinned (OpenSpec.upto wheelAnewSpec)

/-- 'coxswainlaw6.WheelCancel', WHERE WHAT IT READS IS OF BULK AT MOST 1048576: true; the input reads as it did. -/
def wheelCancelUptoRow : OpenClaim := { program := "ytjipkgnkabocjaa", sum := "2ab8853a1790de2cbf92b0f4ef28e3d955355ca8b680e286ebd2d3b96a42f241", func := "coxswain/coxswainlaw6.WheelCancel", spec := "wheelCancel", unfollowed := true, recurses := true, apart := false, narrowed := true }
def WheelCancelUptoSaid : Prop := wheelCancelUptoRow.holds Try.pinned (OpenSpec.upto wheelCancelSpec)

/-- 'coxswainlaw6.WheelScript', WHERE WHAT IT READS IS OF BULK AT MOST 1048576: true; the input reads as it did. -/
def wheelScriptUptoRow : OpenClaim := { program := "ytjipkgnkabocjaa", sum := "2ab8853a1790de2cbf92b0f4ef28e3d955355ca8b680e286ebd2d3b96a42f241", func := "coxswain/coxswainlaw6.WheelScript", spec := "wheelScript", unfollowed := true, recurses := true, apart := false, narrowed := true }
def WheelScriptUptoSaid : Prop := wheelScriptUptoRow.holds Try.pinned (OpenSpec.upto wheelScriptSpec)

/-- 'coxswainlaw6.WheelNone', WHERE WHAT IT READS IS OF BULK AT MOST 1048576: true; the input reads as it did. -/
def wheelNoneUptoRow : OpenClaim := { program := "ytjipkgnkabocjaa", sum := "2ab8853a1790de2cbf92b0f4ef28e3d955355ca8b680e286ebd2d3b96a42f241", func := "coxswain/coxswainlaw6.WheelNone", spec := "wheelNone", unfollowed := true, recurses := true, apart := false, narrowed := true }
def WheelNoneUptoSaid : Prop := wheelNoneUptoRow.holds Try.pinned (OpenSpec.upto wheelNoneSpec)

end Rows
end Go.Proofs.Ytjipkgnkabocjaa
