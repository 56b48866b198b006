/-
  No cell of these rows narrows 'for every input' (looked for: loops, veiled, ifaces, maps, wideKeys, modest, calm, conditions, laid).
  DERIVED. THE GIVEN ROWS OF THIS SEAT. 4 by the template 'for every input the law returns true; each argument reads behind the call as it read before'; 0 by the template 'total and deterministic' (their statements: YtkgcnjcalalbmaaTotals.lean).
  GIVEN WITH THE SEED: the statements are not yours to turn. If you find one false, say at which input.
  Laid BY PROGRAM, IN A SANDBOX (cutbox-rows.mjs): the forced cells as the released guide's own fill.sh prints them over the translation 2bd6754e61025b0c… (all of the seat's roots in one cut). By AI agents, Wed Nov 11 2026. No macro, syntax, notation, axiom, sorry.
-/
import Derived.Test.YtkgcnjcalalbmaaChecked
import GoSem.Claim
import GoSem.ClaimJoined
import GoSem.ClaimMapViews
import Derived.JoinedTies
import Derived.KernelRfl
namespace Go.Proofs.Ytkgcnjcalalbmaa
/- THE CELL 'sum', in the pinned program and in every row, IS THE sha256 OF THE DUMP (.gsa) THAT YtkgcnjcalalbmaaProg.lean LOADS. Nothing in Lean hashes anything: it is a label: what it is worth is what the hold of that sum in a sandbox is worth. -/
noncomputable def Try.pinned : Pinned := { name := "ytkgcnjcalalbmaa", sum := "2bd6754e61025b0c3c37179b2b491ff263300547034d4eeb58665a0b615a8045", checked := Try.checked }
namespace Rows
def none {H : Type} : Left H := { results := [], args := [] }

/-- 'coxswainlaw17.DemandJobs': WHATEVER THE INPUT: true; the input reads as it did. -/
def demandJobsSpec : ChangeSpec := { name := "demandJobs", fn := fun _ => fun
  | [d1, d2] => { results := [.lit (.bool true)], args := [d1, d2] }
  | _ => none }
def demandJobsRow : OpenClaim := { program := "ytkgcnjcalalbmaa", sum := "2bd6754e61025b0c3c37179b2b491ff263300547034d4eeb58665a0b615a8045", func := "coxswain/coxswainlaw17.DemandJobs", spec := "demandJobs", unfollowed := true, recurses := true, apart := false }
def DemandJobsSaid : Prop := demandJobsRow.holds Try.pinned (OpenSpec.ofChange demandJobsSpec)

/-- ITS FALSE NEIGHBOUR: 'it returns false'. Refute it at one input. -/
def demandJobsWrong : ChangeSpec := { name := "demandJobs", fn := fun _ => fun
  | [d1, d2] => { results := [.lit (.bool false)], args := [d1, d2] }
  | _ => none }
def DemandJobsWrongFalsely : Prop := demandJobsRow.holds Try.pinned (OpenSpec.ofChange demandJobsWrong)

/-- 'coxswainlaw17.DemandLess': WHATEVER THE INPUT: true; the input reads as it did. -/
def demandLessSpec : ChangeSpec := { name := "demandLess", fn := fun _ => fun
  | [d1, d2, d3, d4] => { results := [.lit (.bool true)], args := [d1, d2, d3, d4] }
  | _ => none }
def demandLessRow : OpenClaim := { program := "ytkgcnjcalalbmaa", sum := "2bd6754e61025b0c3c37179b2b491ff263300547034d4eeb58665a0b615a8045", func := "coxswain/coxswainlaw17.DemandLess", spec := "demandLess", unfollowed := true, recurses := true, apart := false }
def DemandLessSaid : Prop := demandLessRow.holds Try.pinned (OpenSpec.ofChange demandLessSpec)

/-- ITS FALSE NEIGHBOUR: 'it returns false'. Refute it at one input. -/
def demandLessWrong : ChangeSpec := { name := "demandLess", fn := fun _ => fun
  | [d1, d2, d3, d4] => { results := [.lit (.bool false)], args := [d1, d2, d3, d4] }
  | _ => none }
def DemandLessWrongFalsely : Prop := demandLessRow.holds Try.pinned (OpenSpec.ofChange demandLessWrong)

/-- 'coxswainlaw17.DemandAlone': WHATEVER THE INPUT: true; the input reads as it did. -/
def demandAloneSpec : ChangeSpec := { name := "demandAlone", fn := fun _ => fun
  | [d1, d2, d3, d4] => { results := [.lit (.bool true)], args := [d1, d2, d3, d4] }
  | _ => none }
def demandAloneRow : OpenClaim := { program := "ytkgcnjcalalbmaa", sum := "2bd6754e61025b0c3c37179b2b491ff263300547034d4eeb58665a0b615a8045", func := "coxswain/coxswainlaw17.DemandAlone", spec := "demandAlone", unfollowed := true, recurses := true, apart := false }
def DemandAloneSaid : Prop := demandAloneRow.holds Try.pinned (OpenSpec.ofChange demandAloneSpec)

/-- ITS FALSE NEIGHBOUR: 'it returns false'. Refute it at one input. -/
def demandAloneWrong : ChangeSpec := { name := "demandAlone", fn := fun _ => fun
  | [d1, d2, d3, d4] => { results := [.lit (.bool false)], args := [d1, d2, d3, d4] }
  | _ => none }
def DemandAloneWrongFalsely : Prop := demandAloneRow.holds Try.pinned (OpenSpec.ofChange demandAloneWrong)

/-- 'coxswainlaw17.DemandGrows': WHATEVER THE INPUT: true; the input reads as it did. -/
def demandGrowsSpec : ChangeSpec := { name := "demandGrows", fn := fun _ => fun
  | [d1, d2, d3] => { results := [.lit (.bool true)], args := [d1, d2, d3] }
  | _ => none }
def demandGrowsRow : OpenClaim := { program := "ytkgcnjcalalbmaa", sum := "2bd6754e61025b0c3c37179b2b491ff263300547034d4eeb58665a0b615a8045", func := "coxswain/coxswainlaw17.DemandGrows", spec := "demandGrows", unfollowed := true, recurses := true, apart := false }
def DemandGrowsSaid : Prop := demandGrowsRow.holds Try.pinned (OpenSpec.ofChange demandGrowsSpec)

/-- ITS FALSE NEIGHBOUR: 'it returns false'. Refute it at one input. -/
def demandGrowsWrong : ChangeSpec := { name := "demandGrows", fn := fun _ => fun
  | [d1, d2, d3] => { results := [.lit (.bool false)], args := [d1, d2, d3] }
  | _ => none }
def DemandGrowsWrongFalsely : Prop := demandGrowsRow.holds Try.pinned (OpenSpec.ofChange demandGrowsWrong)

/- THE SECOND FORM. 'bulk': how many values and letters a reading holds, each counted each time it is reached (what is shared counts as often as it is met; a slice's spare places count too). A statement '..UptoSaid' is the law's where the arguments, and the package variables that the reading takes, are together of bulk at most 1048576: NARROWER than '..Said'. Prove '..Said' where nothing that the law and all that it calls make is longer than what came in: it says more and counts as full. Else prove '..UptoSaid'. A law counts once. -/
mutual
def uptoBulk {H : Type} : DataW H → Nat
  | .lit (.string bytes) => bytes.length + 1
  | .lit _ => 1
  | .nil => 1
  | .ptr d => uptoBulk d + 1
  | .slice elems spare => uptoBulkAll elems + uptoBulkAll spare + 1
  | .agg parts => uptoBulkAll parts + 1
  | .iface _ d => uptoBulk d + 1
  | .map entries => uptoBulkEntries entries + 1
  | .held _ => 1
def uptoBulkAll {H : Type} : List (DataW H) → Nat
  | [] => 0
  | d :: r => uptoBulk d + uptoBulkAll r
def uptoBulkEntries {H : Type} : List (Lit × DataW H) → Nat
  | [] => 0
  | x :: r => uptoBulkEntry x + uptoBulkEntries r
def uptoBulkEntry {H : Type} : Lit × DataW H → Nat
  | (.string bytes, d) => bytes.length + uptoBulk d + 1
  | (_, d) => uptoBulk d + 1
 end
def uptoSmall : (H : Type) → List (DataW H) → Bool := fun _ ds => decide (uptoBulkAll ds ≤ 1048576)
def OpenSpec.upto (s : _root_.Go.ChangeSpec) : _root_.Go.OpenSpec := { _root_.Go.OpenSpec.ofChange s with cond := some uptoSmall }

/-- 'coxswainlaw17.DemandJobs', WHERE WHAT IT READS IS OF BULK AT MOST 1048576: true; the input reads as it did. -/
def demandJobsUptoRow : OpenClaim := { program := "ytkgcnjcalalbmaa", sum := "2bd6754e61025b0c3c37179b2b491ff263300547034d4eeb58665a0b615a8045", func := "coxswain/coxswainlaw17.DemandJobs", spec := "demandJobs", unfollowed := true, recurses := true, apart := false, narrowed := true }
def DemandJobsUptoSaid : Prop := demandJobsUptoRow.holds Try.pinned (OpenSpec.upto demandJobsSpec)

/-- 'coxswainlaw17.DemandLess', WHERE WHAT IT READS IS OF BULK AT MOST 1048576: true; the input reads as it did. -/
def demandLessUptoRow : OpenClaim := { program := "ytkgcnjcalalbmaa", sum := "2bd6754e61025b0c3c37179b2b491ff263300547034d4eeb58665a0b615a8045", func := "coxswain/coxswainlaw17.DemandLess", spec := "demandLess", unfollowed := true, recurses := true, apart := false, narrowed := true }
def DemandLessUptoSaid : Prop := demandLessUptoRow.holds Try.pinned (OpenSpec.upto demandLessSpec)

/-- 'coxswainlaw17.DemandAlone', WHERE WHAT IT READS IS OF BULK AT MOST 1048576: true; the input reads as it did. -/
def demandAloneUptoRow : OpenClaim := { program := "ytkgcnjcalalbmaa", sum := "2bd6754e61025b0c3c37179b2b491ff263300547034d4eeb58665a0b615a8045", func := "coxswain/coxswainlaw17.DemandAlone", spec := "demandAlone", unfollowed := true, recurses := true, apart := false, narrowed := true }
def DemandAloneUptoSaid : Prop := demandAloneUptoRow.holds Try.pinned (OpenSpec.upto demandAloneSpec)

/-- 'coxswainlaw17.DemandGrows', WHERE WHAT IT READS IS OF BULK AT MOST 1048576: true; the input reads as it did. -/
def demandGrowsUptoRow : OpenClaim := { program := "ytkgcnjcalalbmaa", sum := "2bd6754e61025b0c3c37179b2b491ff263300547034d4eeb58665a0b615a8045", func := "coxswain/coxswainlaw17.DemandGrows", spec := "demandGrows", unfollowed := true, recurses := true, apart := false, narrowed := true }
def DemandGrowsUptoSaid : Prop := demandGrowsUptoRow.holds Try.pinned (OpenSpec.upto demandGrowsSpec)

end Rows
end Go.Proofs.Ytkgcnjcalalbmaa
