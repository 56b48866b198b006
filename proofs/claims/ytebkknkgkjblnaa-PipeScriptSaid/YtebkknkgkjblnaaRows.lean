/-
  No cell of these rows narrows 'for every input' (looked for: loops, veiled, ifaces, maps, wideKeys, modest, calm, conditions, laid).
  DERIVED. THE GIVEN ROWS OF THIS SEAT. 5 by the template 'for every input the law returns true; each argument reads behind the call as it read before'; 0 by the template 'total and deterministic' (their statements: YtebkknkgkjblnaaTotals.lean).
  GIVEN WITH THE SEED: the statements are not yours to turn. If you find one false, say at which input.
  Laid BY PROGRAM, IN A SANDBOX (cutbox-rows.mjs): the forced cells as the released guide's own fill.sh prints them over the translation df052b50bbc27abe… (all of the seat's roots in one cut). By AI agents, Wed Nov 11 2026. No macro, syntax, notation, axiom, sorry.
-/
import Derived.Test.YtebkknkgkjblnaaChecked
import GoSem.Claim
import GoSem.ClaimJoined
import GoSem.ClaimMapViews
import Derived.JoinedTies
import Derived.KernelRfl
namespace Go.Proofs.Ytebkknkgkjblnaa
/- THE CELL 'sum', in the pinned program and in every row, IS THE sha256 OF THE DUMP (.gsa) THAT YtebkknkgkjblnaaProg.lean LOADS. Nothing in Lean hashes anything: it is a label: what it is worth is what the hold of that sum in a sandbox is worth. -/
noncomputable def Try.pinned : Pinned := { name := "ytebkknkgkjblnaa", sum := "df052b50bbc27abef3e09fb578e56e2cb8798863d7d3a6d41fa8a9f3199328f5", checked := Try.checked }
namespace Rows
def none {H : Type} : Left H := { results := [], args := [] }

/-- 'coxswainlaw23.PipeOrder': WHATEVER THE INPUT: true; the input reads as it did. -/
def pipeOrderSpec : ChangeSpec := { name := "pipeOrder", fn := fun _ => fun
  | [d] => { results := [.lit (.bool true)], args := [d] }
  | _ => none }
def pipeOrderRow : OpenClaim := { program := "ytebkknkgkjblnaa", sum := "df052b50bbc27abef3e09fb578e56e2cb8798863d7d3a6d41fa8a9f3199328f5", func := "coxswain/coxswainlaw23.PipeOrder", spec := "pipeOrder", unfollowed := true, recurses := true, apart := false }
def PipeOrderSaid : Prop := pipeOrderRow.holds Try.pinned (OpenSpec.ofChange pipeOrderSpec)

/-- ITS FALSE NEIGHBOUR: 'it returns false'. Refute it at one input. -/
def pipeOrderWrong : ChangeSpec := { name := "pipeOrder", fn := fun _ => fun
  | [d] => { results := [.lit (.bool false)], args := [d] }
  | _ => none }
def PipeOrderWrongFalsely : Prop := pipeOrderRow.holds Try.pinned (OpenSpec.ofChange pipeOrderWrong)

/-- 'coxswainlaw23.PipePieces': WHATEVER THE INPUT: true; the input reads as it did. -/
def pipePiecesSpec : ChangeSpec := { name := "pipePieces", fn := fun _ => fun
  | [d1, d2, d3] => { results := [.lit (.bool true)], args := [d1, d2, d3] }
  | _ => none }
def pipePiecesRow : OpenClaim := { program := "ytebkknkgkjblnaa", sum := "df052b50bbc27abef3e09fb578e56e2cb8798863d7d3a6d41fa8a9f3199328f5", func := "coxswain/coxswainlaw23.PipePieces", spec := "pipePieces", unfollowed := true, recurses := true, apart := false }
def PipePiecesSaid : Prop := pipePiecesRow.holds Try.pinned (OpenSpec.ofChange pipePiecesSpec)

/-- ITS FALSE NEIGHBOUR: 'it returns false'. Refute it at one input. -/
def pipePiecesWrong : ChangeSpec := { name := "pipePieces", fn := fun _ => fun
  | [d1, d2, d3] => { results := [.lit (.bool false)], args := [d1, d2, d3] }
  | _ => none }
def PipePiecesWrongFalsely : Prop := pipePiecesRow.holds Try.pinned (OpenSpec.ofChange pipePiecesWrong)

/-- 'coxswainlaw23.PipeEnds': WHATEVER THE INPUT: true; the input reads as it did. -/
def pipeEndsSpec : ChangeSpec := { name := "pipeEnds", fn := fun _ => fun
  | [d1, d2] => { results := [.lit (.bool true)], args := [d1, d2] }
  | _ => none }
def pipeEndsRow : OpenClaim := { program := "ytebkknkgkjblnaa", sum := "df052b50bbc27abef3e09fb578e56e2cb8798863d7d3a6d41fa8a9f3199328f5", func := "coxswain/coxswainlaw23.PipeEnds", spec := "pipeEnds", unfollowed := true, recurses := true, apart := false }
def PipeEndsSaid : Prop := pipeEndsRow.holds Try.pinned (OpenSpec.ofChange pipeEndsSpec)

/-- ITS FALSE NEIGHBOUR: 'it returns false'. Refute it at one input. -/
def pipeEndsWrong : ChangeSpec := { name := "pipeEnds", fn := fun _ => fun
  | [d1, d2] => { results := [.lit (.bool false)], args := [d1, d2] }
  | _ => none }
def PipeEndsWrongFalsely : Prop := pipeEndsRow.holds Try.pinned (OpenSpec.ofChange pipeEndsWrong)

/-- 'coxswainlaw23.PipeNone': WHATEVER THE INPUT: true; the input reads as it did. -/
def pipeNoneSpec : ChangeSpec := { name := "pipeNone", fn := fun _ => fun
  | [d] => { results := [.lit (.bool true)], args := [d] }
  | _ => none }
def pipeNoneRow : OpenClaim := { program := "ytebkknkgkjblnaa", sum := "df052b50bbc27abef3e09fb578e56e2cb8798863d7d3a6d41fa8a9f3199328f5", func := "coxswain/coxswainlaw23.PipeNone", spec := "pipeNone", unfollowed := true, recurses := true, apart := false }
def PipeNoneSaid : Prop := pipeNoneRow.holds Try.pinned (OpenSpec.ofChange pipeNoneSpec)

/-- ITS FALSE NEIGHBOUR: 'it returns false'. Refute it at one input. -/
def pipeNoneWrong : ChangeSpec := { name := "pipeNone", fn := fun _ => fun
  | [d] => { results := [.lit (.bool false)], args := [d] }
  | _ => none }
def PipeNoneWrongFalsely : Prop := pipeNoneRow.holds Try.pinned (OpenSpec.ofChange pipeNoneWrong)

/-- 'coxswainlaw23.PipeScript': WHATEVER THE INPUT: true; the input reads as it did. -/
def pipeScriptSpec : ChangeSpec := { name := "pipeScript", fn := fun _ => fun
  | [d] => { results := [.lit (.bool true)], args := [d] }
  | _ => none }
def pipeScriptRow : OpenClaim := { program := "ytebkknkgkjblnaa", sum := "df052b50bbc27abef3e09fb578e56e2cb8798863d7d3a6d41fa8a9f3199328f5", func := "coxswain/coxswainlaw23.PipeScript", spec := "pipeScript", unfollowed := true, recurses := true, apart := false }
def PipeScriptSaid : Prop := pipeScriptRow.holds Try.pinned (OpenSpec.ofChange pipeScriptSpec)

/-- ITS FALSE NEIGHBOUR: 'it returns false'. Refute it at one input. -/
def pipeScriptWrong : ChangeSpec := { name := "pipeScript", fn := fun _ => fun
  | [d] => { results := [.lit (.bool false)], args := [d] }
  | _ => none }
def PipeScriptWrongFalsely : Prop := pipeScriptRow.holds Try.pinned (OpenSpec.ofChange pipeScriptWrong)

/- THE SECOND FORM. 'bulk': how many values and letters a reading holds, each counted each time it is reached (what is shared counts as often as it is met; a slice's spare places count too). A statement '..UptoSaid' is the law's where the arguments, and the package variables that the reading takes, are together of bulk at most 1048576: NARROWER than '..Said'. Prove '..Said' where nothing that the law and all that it calls make is longer than what came in: it says more and counts as full. Else prove '..UptoSaid'. A law counts once. -/
mutual
def uptoBulk {H : Type} : DataW H → Nat
  | .lit (.string bytes) => bytes.length + 1
  | .lit _ => 1
  | .nil => 1
  | .ptr d => uptoBulk d + 1
  | .slice elems spare => uptoBulkAll elems + uptoBulkAll spare + 1
  | .agg parts => uptoBulkAll parts + 1
  | .iface _ d => uptoBulk d + 1
  | .map entries => uptoBulkEntries entries + 1
  | .held _ => 1
def uptoBulkAll {H : Type} : List (DataW H) → Nat
  | [] => 0
  | d :: r => uptoBulk d + uptoBulkAll r
def uptoBulkEntries {H : Type} : List (Lit × DataW H) → Nat
  | [] => 0
  | x :: r => uptoBulkEntry x + uptoBulkEntries r
def uptoBulkEntry {H : Type} : Lit × DataW H → Nat
  | (.string bytes, d) => bytes.length + uptoBulk d + 1
  | (_, d) => uptoBulk d + 1
 end
def uptoSmall : (H : Type) → List (DataW H) → Bool := fun _ ds => decide (uptoBulkAll ds ≤ 1048576)
def OpenSpec.upto (s : _root_.Go.ChangeSpec) : _root_.Go.OpenSpec := { _root_.Go.OpenSpec.ofChange s with cond := some uptoSmall }

/-- 'coxswainlaw23.PipeOrder', WHERE WHAT IT READS IS OF BULK AT MOST 1048576: true; the input reads as it did. -/
def pipeOrderUptoRow : OpenClaim := { program := "ytebkknkgkjblnaa", sum := "df052b50bbc27abef3e09fb578e56e2cb8798863d7d3a6d41fa8a9f3199328f5", func := "coxswain/coxswainlaw23.PipeOrder", spec := "pipeOrder", unfollowed := true, recurses := true, apart := false, narrowed := true }
def PipeOrderUptoSaid : Prop := pipeOrderUptoRow.holds Try.pinned (OpenSpec.upto pipeOrderSpec)

/-- 'coxswainlaw23.PipePieces', WHERE WHAT IT READS IS OF BULK AT MOST 1048576: true; the input reads as it did. -/
def pipePiecesUptoRow : OpenClaim := { program := "ytebkknkgkjblnaa", sum := "df052b50bbc27abef3e09fb578e56e2cb8798863d7d3a6d41fa8a9f3199328f5", func := "coxswain/coxswainlaw23.PipePieces", spec := "pipePieces", unfollowed := true, recurses := true, apart := false, narrowed := true }
def PipePiecesUptoSaid : Prop := pipePiecesUptoRow.holds Try.pinned (OpenSpec.upto pipePiecesSpec)

/-- 'coxswainlaw23.PipeEnds', WHERE WHAT IT READS IS OF BULK AT MOST 1048576: true; the input reads as it did. -/
def pipeEndsUptoRow : OpenClaim := { program := "ytebkknkgkjblnaa", sum := "df052b50bbc27abef3e09fb578e56e2cb8798863d7d3a6d41fa8a9f3199328f5", func := "coxswain/coxswainlaw23.PipeEnds", spec := "pipeEnds", unfollowed := true, recurses := true, apart := false, narrowed := true }
def PipeEndsUptoSaid : Prop := pipeEndsUptoRow.holds Try.pinned (OpenSpec.upto pipeEndsSpec)

/-- 'coxswainlaw23.PipeNone', WHERE WHAT IT READS IS OF BULK AT MOST 1048576: true; the input reads as it did. -/
def pipeNoneUptoRow : OpenClaim := { program := "ytebkknkgkjblnaa", sum := "df052b50bbc27abef3e09fb578e56e2cb8798863d7d3a6d41fa8a9f3199328f5", func := "coxswain/coxswainlaw23.PipeNone", spec := "pipeNone", unfollowed := true, recurses := true, apart := false, narrowed := true }
def PipeNoneUptoSaid : Prop := pipeNoneUptoRow.holds Try.pinned (OpenSpec.upto pipeNoneSpec)

/-- 'coxswainlaw23.PipeScript', WHERE WHAT IT READS IS OF BULK AT MOST 1048576: true; the input reads as it did. -/
def pipeScriptUptoRow : OpenClaim := { program := "ytebkknkgkjblnaa", sum := "df052b50bbc27abef3e09fb578e56e2cb8798863d7d3a6d41fa8a9f3199328f5", func := "coxswain/coxswainlaw23.PipeScript", spec := "pipeScript", unfollowed := true, recurses := true, apart := false, narrowed := true }
def PipeScriptUptoSaid : Prop := pipeScriptUptoRow.holds Try.pinned (OpenSpec.upto pipeScriptSpec)

end Rows
end Go.Proofs.Ytebkknkgkjblnaa
