/-
  No cell of these rows narrows 'for every input' (looked for: loops, veiled, ifaces, maps, wideKeys, modest, calm, conditions, laid).
  DERIVED. THE GIVEN ROWS OF THIS SEAT. 4 by the template 'for every input the law returns true; each argument reads behind the call as it read before'; 0 by the template 'total and deterministic' (their statements: YtdgggdhligfnpaaTotals.lean).
  GIVEN WITH THE SEED: the statements are not yours to turn. If you find one false, say at which input.
  Laid BY PROGRAM, IN A SANDBOX (cutbox-rows.mjs): the forced cells as the released guide's own fill.sh prints them over the translation d34fda032efed208… (all of the seat's roots in one cut). By AI agents, Wed Nov 11 2026. No macro, syntax, notation, axiom, sorry.
-/
import Derived.Test.YtdgggdhligfnpaaChecked
import GoSem.Claim
import GoSem.ClaimJoined
import GoSem.ClaimMapViews
import Derived.JoinedTies
import Derived.KernelRfl
namespace Go.Proofs.Ytdgggdhligfnpaa
/- THE CELL 'sum', in the pinned program and in every row, IS THE sha256 OF THE DUMP (.gsa) THAT YtdgggdhligfnpaaProg.lean LOADS. Nothing in Lean hashes anything: it is a label: what it is worth is what the hold of that sum in a sandbox is worth. -/
noncomputable def Try.pinned : Pinned := { name := "ytdgggdhligfnpaa", sum := "d34fda032efed20832e395160d2baa1fa7bebf7bdb16a6f9f2a95f6071b7d7a4", checked := Try.checked }
namespace Rows
def none {H : Type} : Left H := { results := [], args := [] }

/-- 'coxswainlaw25.ProcOnce': WHATEVER THE INPUT: true; the input reads as it did. -/
def procOnceSpec : ChangeSpec := { name := "procOnce", fn := fun _ => fun
  | [d1, d2] => { results := [.lit (.bool true)], args := [d1, d2] }
  | _ => none }
def procOnceRow : OpenClaim := { program := "ytdgggdhligfnpaa", sum := "d34fda032efed20832e395160d2baa1fa7bebf7bdb16a6f9f2a95f6071b7d7a4", func := "coxswain/coxswainlaw25.ProcOnce", spec := "procOnce", unfollowed := true, recurses := true, apart := false }
def ProcOnceSaid : Prop := procOnceRow.holds Try.pinned (OpenSpec.ofChange procOnceSpec)

/-- ITS FALSE NEIGHBOUR: 'it returns false'. Refute it at one input. -/
def procOnceWrong : ChangeSpec := { name := "procOnce", fn := fun _ => fun
  | [d1, d2] => { results := [.lit (.bool false)], args := [d1, d2] }
  | _ => none }
def ProcOnceWrongFalsely : Prop := procOnceRow.holds Try.pinned (OpenSpec.ofChange procOnceWrong)

/-- 'coxswainlaw25.ProcScript': WHATEVER THE INPUT: true; the input reads as it did. -/
def procScriptSpec : ChangeSpec := { name := "procScript", fn := fun _ => fun
  | [d] => { results := [.lit (.bool true)], args := [d] }
  | _ => none }
def procScriptRow : OpenClaim := { program := "ytdgggdhligfnpaa", sum := "d34fda032efed20832e395160d2baa1fa7bebf7bdb16a6f9f2a95f6071b7d7a4", func := "coxswain/coxswainlaw25.ProcScript", spec := "procScript", unfollowed := true, recurses := true, apart := false }
def ProcScriptSaid : Prop := procScriptRow.holds Try.pinned (OpenSpec.ofChange procScriptSpec)

/-- ITS FALSE NEIGHBOUR: 'it returns false'. Refute it at one input. -/
def procScriptWrong : ChangeSpec := { name := "procScript", fn := fun _ => fun
  | [d] => { results := [.lit (.bool false)], args := [d] }
  | _ => none }
def ProcScriptWrongFalsely : Prop := procScriptRow.holds Try.pinned (OpenSpec.ofChange procScriptWrong)

/-- 'coxswainlaw25.ProcNone': WHATEVER THE INPUT: true; the input reads as it did. -/
def procNoneSpec : ChangeSpec := { name := "procNone", fn := fun _ => fun
  | [d] => { results := [.lit (.bool true)], args := [d] }
  | _ => none }
def procNoneRow : OpenClaim := { program := "ytdgggdhligfnpaa", sum := "d34fda032efed20832e395160d2baa1fa7bebf7bdb16a6f9f2a95f6071b7d7a4", func := "coxswain/coxswainlaw25.ProcNone", spec := "procNone", unfollowed := true, recurses := true, apart := false }
def ProcNoneSaid : Prop := procNoneRow.holds Try.pinned (OpenSpec.ofChange procNoneSpec)

/-- ITS FALSE NEIGHBOUR: 'it returns false'. Refute it at one input. -/
def procNoneWrong : ChangeSpec := { name := "procNone", fn := fun _ => fun
  | [d] => { results := [.lit (.bool false)], args := [d] }
  | _ => none }
def ProcNoneWrongFalsely : Prop := procNoneRow.holds Try.pinned (OpenSpec.ofChange procNoneWrong)

/-- 'coxswainlaw25.ProcOrphans': WHATEVER THE INPUT: true; the input reads as it did. -/
def procOrphansSpec : ChangeSpec := { name := "procOrphans", fn := fun _ => fun
  | [d] => { results := [.lit (.bool true)], args := [d] }
  | _ => none }
def procOrphansRow : OpenClaim := { program := "ytdgggdhligfnpaa", sum := "d34fda032efed20832e395160d2baa1fa7bebf7bdb16a6f9f2a95f6071b7d7a4", func := "coxswain/coxswainlaw25.ProcOrphans", spec := "procOrphans", unfollowed := true, recurses := true, apart := false }
def ProcOrphansSaid : Prop := procOrphansRow.holds Try.pinned (OpenSpec.ofChange procOrphansSpec)

/-- ITS FALSE NEIGHBOUR: 'it returns false'. Refute it at one input. -/
def procOrphansWrong : ChangeSpec := { name := "procOrphans", fn := fun _ => fun
  | [d] => { results := [.lit (.bool false)], args := [d] }
  | _ => none }
def ProcOrphansWrongFalsely : Prop := procOrphansRow.holds Try.pinned (OpenSpec.ofChange procOrphansWrong)

/- THE SECOND FORM. 'bulk': how many values and letters a reading holds, each counted each time it is reached (what is shared counts as often as it is met; a slice's spare places count too). A statement '..UptoSaid' is the law's where the arguments, and the package variables that the reading takes, are together of bulk at most 1048576: NARROWER than '..Said'. Prove '..Said' where nothing that the law and all that it calls make is longer than what came in: it says more and counts as full. Else prove '..UptoSaid'. A law counts once. -/
mutual
def uptoBulk {H : Type} : DataW H → Nat
  | .lit (.string bytes) => bytes.length + 1
  | .lit _ => 1
  | .nil => 1
  | .ptr d => uptoBulk d + 1
  | .slice elems spare => uptoBulkAll elems + uptoBulkAll spare + 1
  | .agg parts => uptoBulkAll parts + 1
  | .iface _ d => uptoBulk d + 1
  | .map entries => uptoBulkEntries entries + 1
  | .held _ => 1
def uptoBulkAll {H : Type} : List (DataW H) → Nat
  | [] => 0
  | d :: r => uptoBulk d + uptoBulkAll r
def uptoBulkEntries {H : Type} : List (Lit × DataW H) → Nat
  | [] => 0
  | x :: r => uptoBulkEntry x + uptoBulkEntries r
def uptoBulkEntry {H : Type} : Lit × DataW H → Nat
  | (.string bytes, d) => bytes.length + uptoBulk d + 1
  | (_, d) => uptoBulk d + 1
 end
def uptoSmall : (H : Type) → List (DataW H) → Bool := fun _ ds => decide (uptoBulkAll ds ≤ 1048576)
def OpenSpec.upto (s : _root_.Go.ChangeSpec) : _root_.Go.OpenSpec := { _root_.Go.OpenSpec.ofChange s with cond := some uptoSmall }

/-- 'coxswainlaw25.ProcOnce', WHERE WHAT IT READS IS OF BULK AT MOST 1048576: true; the input reads as it did. -/
def procOnceUptoRow : OpenClaim := { program := "ytdgggdhligfnpaa", sum := "d34fda032efed20832e395160d2baa1fa7bebf7bdb16a6f9f2a95f6071b7d7a4", func := "coxswain/coxswainlaw25.ProcOnce", spec := "procOnce", unfollowed := true, recurses := true, apart := false, narrowed := true }
def ProcOnceUptoSaid : Prop := procOnceUptoRow.holds Try.pinned (OpenSpec.upto procOnceSpec)

/-- 'coxswainlaw25.ProcScript', WHERE WHAT IT READS IS OF BULK AT MOST 1048576: true; the input reads as it did. -/
def procScriptUptoRow : OpenClaim := { program := "ytdgggdhligfnpaa", sum := "d34fda032efed20832e395160d2baa1fa7bebf7bdb16a6f9f2a95f6071b7d7a4", func := "coxswain/coxswainlaw25.ProcScript", spec := "procScript", unfollowed := true, recurses := true, apart := false, narrowed := true }
def ProcScriptUptoSaid : Prop := procScriptUptoRow.holds Try.pinned (OpenSpec.upto procScriptSpec)

/-- 'coxswainlaw25.ProcNone', WHERE WHAT IT READS IS OF BULK AT MOST 1048576: true; the input reads as it did. -/
def procNoneUptoRow : OpenClaim := { program := "ytdgggdhligfnpaa", sum := "d34fda032efed20832e395160d2baa1fa7bebf7bdb16a6f9f2a95f6071b7d7a4", func := "coxswain/coxswainlaw25.ProcNone", spec := "procNone", unfollowed := true, recurses := true, apart := false, narrowed := true }
def ProcNoneUptoSaid : Prop := procNoneUptoRow.holds Try.pinned (OpenSpec.upto procNoneSpec)

/-- 'coxswainlaw25.ProcOrphans', WHERE WHAT IT READS IS OF BULK AT MOST 1048576: true; the input reads as it did. -/
def procOrphansUptoRow : OpenClaim := { program := "ytdgggdhligfnpaa", sum := "d34fda032efed20832e395160d2baa1fa7bebf7bdb16a6f9f2a95f6071b7d7a4", func := "coxswain/coxswainlaw25.ProcOrphans", spec := "procOrphans", unfollowed := true, recurses := true, apart := false, narrowed := true }
def ProcOrphansUptoSaid : Prop := procOrphansUptoRow.holds Try.pinned (OpenSpec.upto procOrphansSpec)

end Rows
end Go.Proofs.Ytdgggdhligfnpaa
