/-
  No cell of these rows narrows 'for every input' (looked for: loops, veiled, ifaces, maps, wideKeys, modest, calm, conditions, laid).
  DERIVED. THE GIVEN ROWS OF THIS SEAT. 3 by the template 'for every input the law returns true; each argument reads behind the call as it read before'; 0 by the template 'total and deterministic' (their statements: YtjfldaagnccfpaaTotals.lean).
  GIVEN WITH THE SEED: the statements are not yours to turn. If you find one false, say at which input.
  Laid BY PROGRAM, IN A SANDBOX (cutbox-rows.mjs): the forced cells as the released guide's own fill.sh prints them over the translation db8626c791ae5eb4… (all of the seat's roots in one cut). By AI agents, Wed Nov 11 2026. No macro, syntax, notation, axiom, sorry.
-/
import Derived.Test.YtjfldaagnccfpaaChecked
import GoSem.Claim
import GoSem.ClaimJoined
import GoSem.ClaimMapViews
import Derived.JoinedTies
import Derived.KernelRfl
namespace Go.Proofs.Ytjfldaagnccfpaa
/- THE CELL 'sum', in the pinned program and in every row, IS THE sha256 OF THE DUMP (.gsa) THAT YtjfldaagnccfpaaProg.lean LOADS. Nothing in Lean hashes anything: it is a label: what it is worth is what the hold of that sum in a sandbox is worth. -/
noncomputable def Try.pinned : Pinned := { name := "ytjfldaagnccfpaa", sum := "db8626c791ae5eb4c8eb35dd7b88c2d34792e5546dfbf43f51e8fb8a8e876b40", checked := Try.checked }
namespace Rows
def none {H : Type} : Left H := { results := [], args := [] }

/-- 'coxswainlaw7.PrioCompares': WHATEVER THE INPUT: true; the input reads as it did. -/
def prioComparesSpec : ChangeSpec := { name := "prioCompares", fn := fun _ => fun
  | [d1, d2] => { results := [.lit (.bool true)], args := [d1, d2] }
  | _ => none }
def prioComparesRow : OpenClaim := { program := "ytjfldaagnccfpaa", sum := "db8626c791ae5eb4c8eb35dd7b88c2d34792e5546dfbf43f51e8fb8a8e876b40", func := "coxswain/coxswainlaw7.PrioCompares", spec := "prioCompares", unfollowed := true, recurses := true, apart := false }
def PrioComparesSaid : Prop := prioComparesRow.holds Try.pinned (OpenSpec.ofChange prioComparesSpec)

/-- ITS FALSE NEIGHBOUR: 'it returns false'. Refute it at one input. -/
def prioComparesWrong : ChangeSpec := { name := "prioCompares", fn := fun _ => fun
  | [d1, d2] => { results := [.lit (.bool false)], args := [d1, d2] }
  | _ => none }
def PrioComparesWrongFalsely : Prop := prioComparesRow.holds Try.pinned (OpenSpec.ofChange prioComparesWrong)

/-- 'coxswainlaw7.PrioMost': WHATEVER THE INPUT: true; the input reads as it did. -/
def prioMostSpec : ChangeSpec := { name := "prioMost", fn := fun _ => fun
  | [d1, d2] => { results := [.lit (.bool true)], args := [d1, d2] }
  | _ => none }
def prioMostRow : OpenClaim := { program := "ytjfldaagnccfpaa", sum := "db8626c791ae5eb4c8eb35dd7b88c2d34792e5546dfbf43f51e8fb8a8e876b40", func := "coxswain/coxswainlaw7.PrioMost", spec := "prioMost", unfollowed := true, recurses := true, apart := false }
def PrioMostSaid : Prop := prioMostRow.holds Try.pinned (OpenSpec.ofChange prioMostSpec)

/-- ITS FALSE NEIGHBOUR: 'it returns false'. Refute it at one input. -/
def prioMostWrong : ChangeSpec := { name := "prioMost", fn := fun _ => fun
  | [d1, d2] => { results := [.lit (.bool false)], args := [d1, d2] }
  | _ => none }
def PrioMostWrongFalsely : Prop := prioMostRow.holds Try.pinned (OpenSpec.ofChange prioMostWrong)

/-- 'coxswainlaw7.PrioOrder': WHATEVER THE INPUT: true; the input reads as it did. -/
def prioOrderSpec : ChangeSpec := { name := "prioOrder", fn := fun _ => fun
  | [d1, d2, d3] => { results := [.lit (.bool true)], args := [d1, d2, d3] }
  | _ => none }
def prioOrderRow : OpenClaim := { program := "ytjfldaagnccfpaa", sum := "db8626c791ae5eb4c8eb35dd7b88c2d34792e5546dfbf43f51e8fb8a8e876b40", func := "coxswain/coxswainlaw7.PrioOrder", spec := "prioOrder", unfollowed := true, recurses := true, apart := false }
def PrioOrderSaid : Prop := prioOrderRow.holds Try.pinned (OpenSpec.ofChange prioOrderSpec)

/-- ITS FALSE NEIGHBOUR: 'it returns false'. Refute it at one input. -/
def prioOrderWrong : ChangeSpec := { name := "prioOrder", fn := fun _ => fun
  | [d1, d2, d3] => { results := [.lit (.bool false)], args := [d1, d2, d3] }
  | _ => none }
def PrioOrderWrongFalsely : Prop := prioOrderRow.holds Try.pinned (OpenSpec.ofChange prioOrderWrong)

/- THE SECOND FORM. 'bulk': how many values and letters a reading holds, each counted each time it is reached (what is shared counts as often as it is met; a slice's spare places count too). A statement '..UptoSaid' is the law's where the arguments, and the package variables that the reading takes, are together of bulk at most 1048576: NARROWER than '..Said'. Prove '..Said' where nothing that the law and all that it calls make is longer than what came in: it says more and counts as full. Else prove '..UptoSaid'. A law counts once. -/
mutual
def uptoBulk {H : Type} : DataW H → Nat
  | .lit (.string bytes) => bytes.length + 1
  | .lit _ => 1
  | .nil => 1
  | .ptr d => uptoBulk d + 1
  | .slice elems spare => uptoBulkAll elems + uptoBulkAll spare + 1
  | .agg parts => uptoBulkAll parts + 1
  | .iface _ d => uptoBulk d + 1
  | .map entries => uptoBulkEntries entries + 1
  | .held _ => 1
def uptoBulkAll {H : Type} : List (DataW H) → Nat
  | [] => 0
  | d :: r => uptoBulk d + uptoBulkAll r
def uptoBulkEntries {H : Type} : List (Lit × DataW H) → Nat
  | [] => 0
  | x :: r => uptoBulkEntry x + uptoBulkEntries r
def uptoBulkEntry {H : Type} : Lit × DataW H → Nat
  | (.string bytes, d) => bytes.length + uptoBulk d + 1
  | (_, d) => uptoBulk d + 1
 end
def uptoSmall : (H : Type) → List (DataW H) → Bool := fun _ ds => decide (uptoBulkAll ds ≤ 1048576)
def OpenSpec.upto (s : _root_.Go.ChangeSpec) : _root_.Go.OpenSpec := { _root_.Go.OpenSpec.ofChange s with cond := some uptoSmall }

/-- 'coxswainlaw7.PrioCompares', WHERE WHAT IT READS IS OF BULK AT MOST 1048576: true; the input reads as it did. -/
def prioComparesUptoRow : OpenClaim := { program := "ytjfldaagnccfpaa", sum := "db8626c791ae5eb4c8eb35dd7b88c2d34792e5546dfbf43f51e8fb8a8e876b40", func := "coxswain/coxswainlaw7.PrioCompares", spec := "prioCompares", unfollowed := true, recurses := true, apart := false, narrowed := true }
def PrioComparesUptoSaid : Prop := prioComparesUptoRow.holds Try.pinned (OpenSpec.upto prioComparesSpec)

/-- 'coxswainlaw7.PrioMost', WHERE WHAT IT READS IS OF BULK AT MOST 1048576: true; the input reads as it did. -/
def prioMostUptoRow : OpenClaim := { program := "ytjfldaagnccfpaa", sum := "db8626c791ae5eb4c8eb35dd7b88c2d34792e5546dfbf43f51e8fb8a8e876b40", func := "coxswain/coxswainlaw7.PrioMost", spec := "prioMost", unfollowed := true, recurses := true, apart := false, narrowed := true }
def PrioMostUptoSaid : Prop := prioMostUptoRow.holds Try.pinned (OpenSpec.upto prioMostSpec)

/-- 'coxswainlaw7.PrioOrder', WHERE WHAT IT READS IS OF BULK AT MOST 1048576: true; the input reads as it did. -/
def prioOrderUptoRow : OpenClaim := { program := "ytjfldaagnccfpaa", sum := "db8626c791ae5eb4c8eb35dd7b88c2d34792e5546dfbf43f51e8fb8a8e876b40", func := "coxswain/coxswainlaw7.PrioOrder", spec := "prioOrder", unfollowed := true, recurses := true, apart := false, narrowed := true }
def PrioOrderUptoSaid : Prop := prioOrderUptoRow.holds Try.pinned (OpenSpec.upto prioOrderSpec)

end Rows
end Go.Proofs.Ytjfldaagnccfpaa
