/-
  No cell of these rows narrows 'for every input' (looked for: loops, veiled, ifaces, maps, wideKeys, modest, calm, conditions, laid).
  DERIVED. THE GIVEN ROWS OF THIS SEAT. 5 by the template 'for every input the law returns true; each argument reads behind the call as it read before'; 0 by the template 'total and deterministic' (their statements: YtfdpipjkckbgdaaTotals.lean).
  GIVEN WITH THE SEED: the statements are not yours to turn. If you find one false, say at which input.
  Laid BY PROGRAM, IN A SANDBOX (cutbox-rows.mjs): the forced cells as the released guide's own fill.sh prints them over the translation 66d19bc73ea5891a… (all of the seat's roots in one cut). By AI agents, Wed Nov 11 2026. No macro, syntax, notation, axiom, sorry.
-/
import Derived.Test.YtfdpipjkckbgdaaChecked
import GoSem.Claim
import GoSem.ClaimJoined
import GoSem.ClaimMapViews
import Derived.JoinedTies
import Derived.KernelRfl
namespace Go.Proofs.Ytfdpipjkckbgdaa
/- THE CELL 'sum', in the pinned program and in every row, IS THE sha256 OF THE DUMP (.gsa) THAT YtfdpipjkckbgdaaProg.lean LOADS. Nothing in Lean hashes anything: it is a label: what it is worth is what the hold of that sum in a sandbox is worth. -/
noncomputable def Try.pinned : Pinned := { name := "ytfdpipjkckbgdaa", sum := "66d19bc73ea5891a1a94cea5893ca183f4fba951be0770d4c8473c5189532f4b", checked := Try.checked }
namespace Rows
def none {H : Type} : Left H := { results := [], args := [] }

/-- 'coxswainlaw12.LocksWoken': WHATEVER THE INPUT: true; the input reads as it did. -/
def locksWokenSpec : ChangeSpec := { name := "locksWoken", fn := fun _ => fun
  | [d1, d2] => { results := [.lit (.bool true)], args := [d1, d2] }
  | _ => none }
def locksWokenRow : OpenClaim := { program := "ytfdpipjkckbgdaa", sum := "66d19bc73ea5891a1a94cea5893ca183f4fba951be0770d4c8473c5189532f4b", func := "coxswain/coxswainlaw12.LocksWoken", spec := "locksWoken", unfollowed := true, recurses := true, apart := false }
def LocksWokenSaid : Prop := locksWokenRow.holds Try.pinned (OpenSpec.ofChange locksWokenSpec)

/-- ITS FALSE NEIGHBOUR: 'it returns false'. Refute it at one input. -/
def locksWokenWrong : ChangeSpec := { name := "locksWoken", fn := fun _ => fun
  | [d1, d2] => { results := [.lit (.bool false)], args := [d1, d2] }
  | _ => none }
def LocksWokenWrongFalsely : Prop := locksWokenRow.holds Try.pinned (OpenSpec.ofChange locksWokenWrong)

/-- 'coxswainlaw12.LocksTicks': WHATEVER THE INPUT: true; the input reads as it did. -/
def locksTicksSpec : ChangeSpec := { name := "locksTicks", fn := fun _ => fun
  | [d1, d2, d3] => { results := [.lit (.bool true)], args := [d1, d2, d3] }
  | _ => none }
def locksTicksRow : OpenClaim := { program := "ytfdpipjkckbgdaa", sum := "66d19bc73ea5891a1a94cea5893ca183f4fba951be0770d4c8473c5189532f4b", func := "coxswain/coxswainlaw12.LocksTicks", spec := "locksTicks", unfollowed := true, recurses := true, apart := false }
def LocksTicksSaid : Prop := locksTicksRow.holds Try.pinned (OpenSpec.ofChange locksTicksSpec)

/-- ITS FALSE NEIGHBOUR: 'it returns false'. Refute it at one input. -/
def locksTicksWrong : ChangeSpec := { name := "locksTicks", fn := fun _ => fun
  | [d1, d2, d3] => { results := [.lit (.bool false)], args := [d1, d2, d3] }
  | _ => none }
def LocksTicksWrongFalsely : Prop := locksTicksRow.holds Try.pinned (OpenSpec.ofChange locksTicksWrong)

/-- 'coxswainlaw12.LocksOwn': WHATEVER THE INPUT: true; the input reads as it did. -/
def locksOwnSpec : ChangeSpec := { name := "locksOwn", fn := fun _ => fun
  | [d1, d2] => { results := [.lit (.bool true)], args := [d1, d2] }
  | _ => none }
def locksOwnRow : OpenClaim := { program := "ytfdpipjkckbgdaa", sum := "66d19bc73ea5891a1a94cea5893ca183f4fba951be0770d4c8473c5189532f4b", func := "coxswain/coxswainlaw12.LocksOwn", spec := "locksOwn", unfollowed := true, recurses := true, apart := false }
def LocksOwnSaid : Prop := locksOwnRow.holds Try.pinned (OpenSpec.ofChange locksOwnSpec)

/-- ITS FALSE NEIGHBOUR: 'it returns false'. Refute it at one input. -/
def locksOwnWrong : ChangeSpec := { name := "locksOwn", fn := fun _ => fun
  | [d1, d2] => { results := [.lit (.bool false)], args := [d1, d2] }
  | _ => none }
def LocksOwnWrongFalsely : Prop := locksOwnRow.holds Try.pinned (OpenSpec.ofChange locksOwnWrong)

/-- 'coxswainlaw12.LocksNone': WHATEVER THE INPUT: true; the input reads as it did. -/
def locksNoneSpec : ChangeSpec := { name := "locksNone", fn := fun _ => fun
  | [d] => { results := [.lit (.bool true)], args := [d] }
  | _ => none }
def locksNoneRow : OpenClaim := { program := "ytfdpipjkckbgdaa", sum := "66d19bc73ea5891a1a94cea5893ca183f4fba951be0770d4c8473c5189532f4b", func := "coxswain/coxswainlaw12.LocksNone", spec := "locksNone", unfollowed := true, recurses := true, apart := false }
def LocksNoneSaid : Prop := locksNoneRow.holds Try.pinned (OpenSpec.ofChange locksNoneSpec)

/-- ITS FALSE NEIGHBOUR: 'it returns false'. Refute it at one input. -/
def locksNoneWrong : ChangeSpec := { name := "locksNone", fn := fun _ => fun
  | [d] => { results := [.lit (.bool false)], args := [d] }
  | _ => none }
def LocksNoneWrongFalsely : Prop := locksNoneRow.holds Try.pinned (OpenSpec.ofChange locksNoneWrong)

/-- 'coxswainlaw12.LocksSafe': WHATEVER THE INPUT: true; the input reads as it did. -/
def locksSafeSpec : ChangeSpec := { name := "locksSafe", fn := fun _ => fun
  | [d1, d2] => { results := [.lit (.bool true)], args := [d1, d2] }
  | _ => none }
def locksSafeRow : OpenClaim := { program := "ytfdpipjkckbgdaa", sum := "66d19bc73ea5891a1a94cea5893ca183f4fba951be0770d4c8473c5189532f4b", func := "coxswain/coxswainlaw12.LocksSafe", spec := "locksSafe", unfollowed := true, recurses := true, apart := false }
def LocksSafeSaid : Prop := locksSafeRow.holds Try.pinned (OpenSpec.ofChange locksSafeSpec)

/-- ITS FALSE NEIGHBOUR: 'it returns false'. Refute it at one input. -/
def locksSafeWrong : ChangeSpec := { name := "locksSafe", fn := fun _ => fun
  | [d1, d2] => { results := [.lit (.bool false)], args := [d1, d2] }
  | _ => none }
def LocksSafeWrongFalsely : Prop := locksSafeRow.holds Try.pinned (OpenSpec.ofChange locksSafeWrong)

/- THE SECOND FORM. 'bulk': how many values and letters a reading holds, each counted each time it is reached (what is shared counts as often as it is met; a slice's spare places count too). A statement '..UptoSaid' is the law's where the arguments, and the package variables that the reading takes, are together of bulk at most 1048576: NARROWER than '..Said'. Prove '..Said' where nothing that the law and all that it calls make is longer than what came in: it says more and counts as full. Else prove '..UptoSaid'. A law counts once. -/
mutual
def uptoBulk {H : Type} : DataW H → Nat
  | .lit (.string bytes) => bytes.length + 1
  | .lit _ => 1
  | .nil => 1
  | .ptr d => uptoBulk d + 1
  | .slice elems spare => uptoBulkAll elems + uptoBulkAll spare + 1
  | .agg parts => uptoBulkAll parts + 1
  | .iface _ d => uptoBulk d + 1
  | .map entries => uptoBulkEntries entries + 1
  | .held _ => 1
def uptoBulkAll {H : Type} : List (DataW H) → Nat
  | [] => 0
  | d :: r => uptoBulk d + uptoBulkAll r
def uptoBulkEntries {H : Type} : List (Lit × DataW H) → Nat
  | [] => 0
  | x :: r => uptoBulkEntry x + uptoBulkEntries r
def uptoBulkEntry {H : Type} : Lit × DataW H → Nat
  | (.string bytes, d) => bytes.length + uptoBulk d + 1
  | (_, d) => uptoBulk d + 1
 end
def uptoSmall : (H : Type) → List (DataW H) → Bool := fun _ ds => decide (uptoBulkAll ds ≤ 1048576)
def OpenSpec.upto (s : _root_.Go.ChangeSpec) : _root_.Go.OpenSpec := { _root_.Go.OpenSpec.ofChange s with cond := some uptoSmall }

/-- 'coxswainlaw12.LocksWoken', WHERE WHAT IT READS IS OF BULK AT MOST 1048576: true; the input reads as it did. -/
def locksWokenUptoRow : OpenClaim := { program := "ytfdpipjkckbgdaa", sum := "66d19bc73ea5891a1a94cea5893ca183f4fba951be0770d4c8473c5189532f4b", func := "coxswain/coxswainlaw12.LocksWoken", spec := "locksWoken", unfollowed := true, recurses := true, apart := false, narrowed := true }
def LocksWokenUptoSaid : Prop := locksWokenUptoRow.holds Try.pinned (OpenSpec.upto locksWokenSpec)

/-- 'coxswainlaw12.LocksTicks', WHERE WHAT IT READS IS OF BULK AT MOST 1048576: true; the input reads as it did. -/
def locksTicksUptoRow : OpenClaim := { program := "ytfdpipjkckbgdaa", sum := "66d19bc73ea5891a1a94cea5893ca183f4fba951be0770d4c8473c5189532f4b", func := "coxswain/coxswainlaw12.LocksTicks", spec := "locksTicks", unfollowed := true, recurses := true, apart := false, narrowed := true }
def LocksTicksUptoSaid : Prop := locksTicksUptoRow.holds Try.pinned (OpenSpec.upto locksTicksSpec)

/-- 'coxswainlaw12.LocksOwn', WHERE WHAT IT READS IS OF BULK AT MOST 1048576: true; the input reads as it did. -/
def locksOwnUptoRow : OpenClaim := { program := "ytfdpipjkckbgdaa", sum := "66d19bc73ea5891a1a94cea5893ca183f4fba951be0770d4c8473c5189532f4b", func := "coxswain/coxswainlaw12.LocksOwn", spec := "locksOwn", unfollowed := true, recurses := true, apart := false, narrowed := true }
def LocksOwnUptoSaid : Prop := locksOwnUptoRow.holds Try.pinned (OpenSpec.upto locksOwnSpec)

/-- 'coxswainlaw12.LocksNone', WHERE WHAT IT READS IS OF BULK AT MOST 1048576: true; the input reads as it did. -/
def locksNoneUptoRow : OpenClaim := { program := "ytfdpipjkckbgdaa", sum := "66d19bc73ea5891a1a94cea5893ca183f4fba951be0770d4c8473c5189532f4b", func := "coxswain/coxswainlaw12.LocksNone", spec := "locksNone", unfollowed := true, recurses := true, apart := false, narrowed := true }
def LocksNoneUptoSaid : Prop := locksNoneUptoRow.holds Try.pinned (OpenSpec.upto locksNoneSpec)

/-- 'coxswainlaw12.LocksSafe', WHERE WHAT IT READS IS OF BULK AT MOST 1048576: true; the input reads as it did. -/
def locksSafeUptoRow : OpenClaim := { program := "ytfdpipjkckbgdaa", sum := "66d19bc73ea5891a1a94cea5893ca183f4fba951be0770d4c8473c5189532f4b", func := "coxswain/coxswainlaw12.LocksSafe", spec := "locksSafe", unfollowed := true, recurses := true, apart := false, narrowed := true }
def LocksSafeUptoSaid : Prop := locksSafeUptoRow.holds Try.pinned (OpenSpec.upto locksSafeSpec)

end Rows
end Go.Proofs.Ytfdpipjkckbgdaa
