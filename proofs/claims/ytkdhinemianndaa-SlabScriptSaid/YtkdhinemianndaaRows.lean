/-
  No cell of these rows narrows 'for every input' (looked for: loops, veiled, ifaces, maps, wideKeys, modest, calm, conditions, laid).
  DERIVED. THE GIVEN ROWS OF THIS SEAT. 3 by the template 'for every input the law returns true; each argument reads behind the call as it read before'; 0 by the template 'total and deterministic' (their statements: YtkdhinemianndaaTotals.lean).
  GIVEN WITH THE SEED: the statements are not yours to turn. If you find one false, say at which input.
  Laid BY PROGRAM, IN A SANDBOX (cutbox-rows.mjs): the forced cells as the released guide's own fill.sh prints them over the translation 96a863051f47328c… (all of the seat's roots in one cut). By AI agents, Wed Nov 11 2026. No macro, syntax, notation, axiom, sorry.
-/
import Derived.Test.YtkdhinemianndaaChecked
import GoSem.Claim
import GoSem.ClaimJoined
import GoSem.ClaimMapViews
import Derived.JoinedTies
import Derived.KernelRfl
namespace Go.Proofs.Ytkdhinemianndaa
/- THE CELL 'sum', in the pinned program and in every row, IS THE sha256 OF THE DUMP (.gsa) THAT YtkdhinemianndaaProg.lean LOADS. Nothing in Lean hashes anything: it is a label: what it is worth is what the hold of that sum in a sandbox is worth. -/
noncomputable def Try.pinned : Pinned := { name := "ytkdhinemianndaa", sum := "96a863051f47328cfd0cd5f6be6a1d0e96c13c144d214a63be0e37a4d677901a", checked := Try.checked }
namespace Rows
def none {H : Type} : Left H := { results := [], args := [] }

/-- 'coxswainlaw5.SlabNone': WHATEVER THE INPUT: true; the input reads as it did. -/
def slabNoneSpec : ChangeSpec := { name := "slabNone", fn := fun _ => fun
  | [d1, d2] => { results := [.lit (.bool true)], args := [d1, d2] }
  | _ => none }
def slabNoneRow : OpenClaim := { program := "ytkdhinemianndaa", sum := "96a863051f47328cfd0cd5f6be6a1d0e96c13c144d214a63be0e37a4d677901a", func := "coxswain/coxswainlaw5.SlabNone", spec := "slabNone", unfollowed := true, recurses := true, apart := false }
def SlabNoneSaid : Prop := slabNoneRow.holds Try.pinned (OpenSpec.ofChange slabNoneSpec)

/-- ITS FALSE NEIGHBOUR: 'it returns false'. Refute it at one input. -/
def slabNoneWrong : ChangeSpec := { name := "slabNone", fn := fun _ => fun
  | [d1, d2] => { results := [.lit (.bool false)], args := [d1, d2] }
  | _ => none }
def SlabNoneWrongFalsely : Prop := slabNoneRow.holds Try.pinned (OpenSpec.ofChange slabNoneWrong)

/-- 'coxswainlaw5.SlabScript': WHATEVER THE INPUT: true; the input reads as it did. -/
def slabScriptSpec : ChangeSpec := { name := "slabScript", fn := fun _ => fun
  | [d] => { results := [.lit (.bool true)], args := [d] }
  | _ => none }
def slabScriptRow : OpenClaim := { program := "ytkdhinemianndaa", sum := "96a863051f47328cfd0cd5f6be6a1d0e96c13c144d214a63be0e37a4d677901a", func := "coxswain/coxswainlaw5.SlabScript", spec := "slabScript", unfollowed := true, recurses := true, apart := false }
def SlabScriptSaid : Prop := slabScriptRow.holds Try.pinned (OpenSpec.ofChange slabScriptSpec)

/-- ITS FALSE NEIGHBOUR: 'it returns false'. Refute it at one input. -/
def slabScriptWrong : ChangeSpec := { name := "slabScript", fn := fun _ => fun
  | [d] => { results := [.lit (.bool false)], args := [d] }
  | _ => none }
def SlabScriptWrongFalsely : Prop := slabScriptRow.holds Try.pinned (OpenSpec.ofChange slabScriptWrong)

/-- 'coxswainlaw5.SlabApart': WHATEVER THE INPUT: true; the input reads as it did. -/
def slabApartSpec : ChangeSpec := { name := "slabApart", fn := fun _ => fun
  | [d] => { results := [.lit (.bool true)], args := [d] }
  | _ => none }
def slabApartRow : OpenClaim := { program := "ytkdhinemianndaa", sum := "96a863051f47328cfd0cd5f6be6a1d0e96c13c144d214a63be0e37a4d677901a", func := "coxswain/coxswainlaw5.SlabApart", spec := "slabApart", unfollowed := true, recurses := true, apart := false }
def SlabApartSaid : Prop := slabApartRow.holds Try.pinned (OpenSpec.ofChange slabApartSpec)

/-- ITS FALSE NEIGHBOUR: 'it returns false'. Refute it at one input. -/
def slabApartWrong : ChangeSpec := { name := "slabApart", fn := fun _ => fun
  | [d] => { results := [.lit (.bool false)], args := [d] }
  | _ => none }
def SlabApartWrongFalsely : Prop := slabApartRow.holds Try.pinned (OpenSpec.ofChange slabApartWrong)

/- THE SECOND FORM. 'bulk': how many values and letters a reading holds, each counted each time it is reached (what is shared counts as often as it is met; a slice's spare places count too). A statement '..UptoSaid' is the law's where the arguments, and the package variables that the reading takes, are together of bulk at most 1048576: NARROWER than '..Said'. Prove '..Said' where nothing that the law and all that it calls make is longer than what came in: it says more and counts as full. Else prove '..UptoSaid'. A law counts once. -/
mutual
def uptoBulk {H : Type} : DataW H → Nat
  | .lit (.string bytes) => bytes.length + 1
  | .lit _ => 1
  | .nil => 1
  | .ptr d => uptoBulk d + 1
  | .slice elems spare => uptoBulkAll elems + uptoBulkAll spare + 1
  | .agg parts => uptoBulkAll parts + 1
  | .iface _ d => uptoBulk d + 1
  | .map entries => uptoBulkEntries entries + 1
  | .held _ => 1
def uptoBulkAll {H : Type} : List (DataW H) → Nat
  | [] => 0
  | d :: r => uptoBulk d + uptoBulkAll r
def uptoBulkEntries {H : Type} : List (Lit × DataW H) → Nat
  | [] => 0
  | x :: r => uptoBulkEntry x + uptoBulkEntries r
def uptoBulkEntry {H : Type} : Lit × DataW H → Nat
  | (.string bytes, d) => bytes.length + uptoBulk d + 1
  | (_, d) => uptoBulk d + 1
 end
def uptoSmall : (H : Type) → List (DataW H) → Bool := fun _ ds => decide (uptoBulkAll ds ≤ 1048576)
def OpenSpec.upto (s : _root_.Go.ChangeSpec) : _root_.Go.OpenSpec := { _root_.Go.OpenSpec.ofChange s with cond := some uptoSmall }

/-- 'coxswainlaw5.SlabNone', WHERE WHAT IT READS IS OF BULK AT MOST 1048576: true; the input reads as it did. -/
def slabNoneUptoRow : OpenClaim := { program := "ytkdhinemianndaa", sum := "96a863051f47328cfd0cd5f6be6a1d0e96c13c144d214a63be0e37a4d677901a", func := "coxswain/coxswainlaw5.SlabNone", spec := "slabNone", unfollowed := true, recurses := true, apart := false, narrowed := true }
def SlabNoneUptoSaid : Prop := slabNoneUptoRow.holds Try.pinned (OpenSpec.upto slabNoneSpec)

/-- 'coxswainlaw5.SlabScript', WHERE WHAT IT READS IS OF BULK AT MOST 1048576: true; the input reads as it did. -/
def slabScriptUptoRow : OpenClaim := { program := "ytkdhinemianndaa", sum := "96a863051f47328cfd0cd5f6be6a1d0e96c13c144d214a63be0e37a4d677901a", func := "coxswain/coxswainlaw5.SlabScript", spec := "slabScript", unfollowed := true, recurses := true, apart := false, narrowed := true }
def SlabScriptUptoSaid : Prop := slabScriptUptoRow.holds Try.pinned (OpenSpec.upto slabScriptSpec)

/-- 'coxswainlaw5.SlabApart', WHERE WHAT IT READS IS OF BULK AT MOST 1048576: true; the input reads as it did. -/
def slabApartUptoRow : OpenClaim := { program := "ytkdhinemianndaa", sum := "96a863051f47328cfd0cd5f6be6a1d0e96c13c144d214a63be0e37a4d677901a", func := "coxswain/coxswainlaw5.SlabApart", spec := "slabApart", unfollowed := true, recurses := true, apart := false, narrowed := true }
def SlabApartUptoSaid : Prop := slabApartUptoRow.holds Try.pinned (OpenSpec.upto slabApartSpec)

end Rows
end Go.Proofs.Ytkdhinemianndaa
