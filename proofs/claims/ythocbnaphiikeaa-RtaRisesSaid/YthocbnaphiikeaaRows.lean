/-
  No cell of these rows narrows 'for every input' (looked for: loops, veiled, ifaces, maps, wideKeys, modest, calm, conditions, laid).
  DERIVED. THE GIVEN ROWS OF THIS SEAT. 5 by the template 'for every input the law returns true; each argument reads behind the call as it read before'; 0 by the template 'total and deterministic' (their statements: YthocbnaphiikeaaTotals.lean).
  GIVEN WITH THE SEED: the statements are not yours to turn. If you find one false, say at which input.
  Laid BY PROGRAM, IN A SANDBOX (cutbox-rows.mjs): the forced cells as the released guide's own fill.sh prints them over the translation d70dc8934253b3b8… (all of the seat's roots in one cut). By AI agents, Wed Nov 11 2026. No macro, syntax, notation, axiom, sorry.
-/
import Derived.Test.YthocbnaphiikeaaChecked
import GoSem.Claim
import GoSem.ClaimJoined
import GoSem.ClaimMapViews
import Derived.JoinedTies
import Derived.KernelRfl
namespace Go.Proofs.Ythocbnaphiikeaa
/- THE CELL 'sum', in the pinned program and in every row, IS THE sha256 OF THE DUMP (.gsa) THAT YthocbnaphiikeaaProg.lean LOADS. Nothing in Lean hashes anything: it is a label: what it is worth is what the hold of that sum in a sandbox is worth. -/
noncomputable def Try.pinned : Pinned := { name := "ythocbnaphiikeaa", sum := "d70dc8934253b3b80f7eeb5d130680a610e056fef1d78783db0b9313a0a760b8", checked := Try.checked }
namespace Rows
def none {H : Type} : Left H := { results := [], args := [] }

/-- 'coxswainlaw16.RtaTells': WHATEVER THE INPUT: true; the input reads as it did. -/
def rtaTellsSpec : ChangeSpec := { name := "rtaTells", fn := fun _ => fun
  | [d1, d2, d3, d4, d5] => { results := [.lit (.bool true)], args := [d1, d2, d3, d4, d5] }
  | _ => none }
def rtaTellsRow : OpenClaim := { program := "ythocbnaphiikeaa", sum := "d70dc8934253b3b80f7eeb5d130680a610e056fef1d78783db0b9313a0a760b8", func := "coxswain/coxswainlaw16.RtaTells", spec := "rtaTells", unfollowed := true, recurses := true, apart := false }
def RtaTellsSaid : Prop := rtaTellsRow.holds Try.pinned (OpenSpec.ofChange rtaTellsSpec)

/-- ITS FALSE NEIGHBOUR: 'it returns false'. Refute it at one input. -/
def rtaTellsWrong : ChangeSpec := { name := "rtaTells", fn := fun _ => fun
  | [d1, d2, d3, d4, d5] => { results := [.lit (.bool false)], args := [d1, d2, d3, d4, d5] }
  | _ => none }
def RtaTellsWrongFalsely : Prop := rtaTellsRow.holds Try.pinned (OpenSpec.ofChange rtaTellsWrong)

/-- 'coxswainlaw16.RtaLeast': WHATEVER THE INPUT: true; the input reads as it did. -/
def rtaLeastSpec : ChangeSpec := { name := "rtaLeast", fn := fun _ => fun
  | [d1, d2, d3, d4] => { results := [.lit (.bool true)], args := [d1, d2, d3, d4] }
  | _ => none }
def rtaLeastRow : OpenClaim := { program := "ythocbnaphiikeaa", sum := "d70dc8934253b3b80f7eeb5d130680a610e056fef1d78783db0b9313a0a760b8", func := "coxswain/coxswainlaw16.RtaLeast", spec := "rtaLeast", unfollowed := true, recurses := true, apart := false }
def RtaLeastSaid : Prop := rtaLeastRow.holds Try.pinned (OpenSpec.ofChange rtaLeastSpec)

/-- ITS FALSE NEIGHBOUR: 'it returns false'. Refute it at one input. -/
def rtaLeastWrong : ChangeSpec := { name := "rtaLeast", fn := fun _ => fun
  | [d1, d2, d3, d4] => { results := [.lit (.bool false)], args := [d1, d2, d3, d4] }
  | _ => none }
def RtaLeastWrongFalsely : Prop := rtaLeastRow.holds Try.pinned (OpenSpec.ofChange rtaLeastWrong)

/-- 'coxswainlaw16.RtaRises': WHATEVER THE INPUT: true; the input reads as it did. -/
def rtaRisesSpec : ChangeSpec := { name := "rtaRises", fn := fun _ => fun
  | [d1, d2, d3, d4, d5] => { results := [.lit (.bool true)], args := [d1, d2, d3, d4, d5] }
  | _ => none }
def rtaRisesRow : OpenClaim := { program := "ythocbnaphiikeaa", sum := "d70dc8934253b3b80f7eeb5d130680a610e056fef1d78783db0b9313a0a760b8", func := "coxswain/coxswainlaw16.RtaRises", spec := "rtaRises", unfollowed := true, recurses := true, apart := false }
def RtaRisesSaid : Prop := rtaRisesRow.holds Try.pinned (OpenSpec.ofChange rtaRisesSpec)

/-- ITS FALSE NEIGHBOUR: 'it returns false'. Refute it at one input. -/
def rtaRisesWrong : ChangeSpec := { name := "rtaRises", fn := fun _ => fun
  | [d1, d2, d3, d4, d5] => { results := [.lit (.bool false)], args := [d1, d2, d3, d4, d5] }
  | _ => none }
def RtaRisesWrongFalsely : Prop := rtaRisesRow.holds Try.pinned (OpenSpec.ofChange rtaRisesWrong)

/-- 'coxswainlaw16.RtaParts': WHATEVER THE INPUT: true; the input reads as it did. -/
def rtaPartsSpec : ChangeSpec := { name := "rtaParts", fn := fun _ => fun
  | [d1, d2, d3, d4] => { results := [.lit (.bool true)], args := [d1, d2, d3, d4] }
  | _ => none }
def rtaPartsRow : OpenClaim := { program := "ythocbnaphiikeaa", sum := "d70dc8934253b3b80f7eeb5d130680a610e056fef1d78783db0b9313a0a760b8", func := "coxswain/coxswainlaw16.RtaParts", spec := "rtaParts", unfollowed := true, recurses := true, apart := false }
def RtaPartsSaid : Prop := rtaPartsRow.holds Try.pinned (OpenSpec.ofChange rtaPartsSpec)

/-- ITS FALSE NEIGHBOUR: 'it returns false'. Refute it at one input. -/
def rtaPartsWrong : ChangeSpec := { name := "rtaParts", fn := fun _ => fun
  | [d1, d2, d3, d4] => { results := [.lit (.bool false)], args := [d1, d2, d3, d4] }
  | _ => none }
def RtaPartsWrongFalsely : Prop := rtaPartsRow.holds Try.pinned (OpenSpec.ofChange rtaPartsWrong)

/-- 'coxswainlaw16.RtaExact': WHATEVER THE INPUT: true; the input reads as it did. -/
def rtaExactSpec : ChangeSpec := { name := "rtaExact", fn := fun _ => fun
  | [d1, d2, d3, d4] => { results := [.lit (.bool true)], args := [d1, d2, d3, d4] }
  | _ => none }
def rtaExactRow : OpenClaim := { program := "ythocbnaphiikeaa", sum := "d70dc8934253b3b80f7eeb5d130680a610e056fef1d78783db0b9313a0a760b8", func := "coxswain/coxswainlaw16.RtaExact", spec := "rtaExact", unfollowed := true, recurses := true, apart := false }
def RtaExactSaid : Prop := rtaExactRow.holds Try.pinned (OpenSpec.ofChange rtaExactSpec)

/-- ITS FALSE NEIGHBOUR: 'it returns false'. Refute it at one input. -/
def rtaExactWrong : ChangeSpec := { name := "rtaExact", fn := fun _ => fun
  | [d1, d2, d3, d4] => { results := [.lit (.bool false)], args := [d1, d2, d3, d4] }
  | _ => none }
def RtaExactWrongFalsely : Prop := rtaExactRow.holds Try.pinned (OpenSpec.ofChange rtaExactWrong)

/- THE SECOND FORM. 'bulk': how many values and letters a reading holds, each counted each time it is reached (what is shared counts as often as it is met; a slice's spare places count too). A statement '..UptoSaid' is the law's where the arguments, and the package variables that the reading takes, are together of bulk at most 1048576: NARROWER than '..Said'. Prove '..Said' where nothing that the law and all that it calls make is longer than what came in: it says more and counts as full. Else prove '..UptoSaid'. A law counts once. -/
mutual
def uptoBulk {H : Type} : DataW H → Nat
  | .lit (.string bytes) => bytes.length + 1
  | .lit _ => 1
  | .nil => 1
  | .ptr d => uptoBulk d + 1
  | .slice elems spare => uptoBulkAll elems + uptoBulkAll spare + 1
  | .agg parts => uptoBulkAll parts + 1
  | .iface _ d => uptoBulk d + 1
  | .map entries => uptoBulkEntries entries + 1
  | .held _ => 1
def uptoBulkAll {H : Type} : List (DataW H) → Nat
  | [] => 0
  | d :: r => uptoBulk d + uptoBulkAll r
def uptoBulkEntries {H : Type} : List (Lit × DataW H) → Nat
  | [] => 0
  | x :: r => uptoBulkEntry x + uptoBulkEntries r
def uptoBulkEntry {H : Type} : Lit × DataW H → Nat
  | (.string bytes, d) => bytes.length + uptoBulk d + 1
  | (_, d) => uptoBulk d + 1
 end
def uptoSmall : (H : Type) → List (DataW H) → Bool := fun _ ds => decide (uptoBulkAll ds ≤ 1048576)
def OpenSpec.upto (s : _root_.Go.ChangeSpec) : _root_.Go.OpenSpec := { _root_.Go.OpenSpec.ofChange s with cond := some uptoSmall }

/-- 'coxswainlaw16.RtaTells', WHERE WHAT IT READS IS OF BULK AT MOST 1048576: true; the input reads as it did. -/
def rtaTellsUptoRow : OpenClaim := { program := "ythocbnaphiikeaa", sum := "d70dc8934253b3b80f7eeb5d130680a610e056fef1d78783db0b9313a0a760b8", func := "coxswain/coxswainlaw16.RtaTells", spec := "rtaTells", unfollowed := true, recurses := true, apart := false, narrowed := true }
def RtaTellsUptoSaid : Prop := rtaTellsUptoRow.holds Try.pinned (OpenSpec.upto rtaTellsSpec)

/-- 'coxswainlaw16.RtaLeast', WHERE WHAT IT READS IS OF BULK AT MOST 1048576: true; the input reads as it did. -/
def rtaLeastUptoRow : OpenClaim := { program := "ythocbnaphiikeaa", sum := "d70dc8934253b3b80f7eeb5d130680a610e056fef1d78783db0b9313a0a760b8", func := "coxswain/coxswainlaw16.RtaLeast", spec := "rtaLeast", unfollowed := true, recurses := true, apart := false, narrowed := true }
def RtaLeastUptoSaid : Prop := rtaLeastUptoRow.holds Try.pinned (OpenSpec.upto rtaLeastSpec)

/-- 'coxswainlaw16.RtaRises', WHERE WHAT IT READS IS OF BULK AT MOST 1048576: true; the input reads as it did. -/
def rtaRisesUptoRow : OpenClaim := { program := "ythocbnaphiikeaa", sum := "d70dc8934253b3b80f7eeb5d130680a610e056fef1d78783db0b9313a0a760b8", func := "coxswain/coxswainlaw16.RtaRises", spec := "rtaRises", unfollowed := true, recurses := true, apart := false, narrowed := true }
def RtaRisesUptoSaid : Prop := rtaRisesUptoRow.holds Try.pinned (OpenSpec.upto rtaRisesSpec)

/-- 'coxswainlaw16.RtaParts', WHERE WHAT IT READS IS OF BULK AT MOST 1048576: true; the input reads as it did. -/
def rtaPartsUptoRow : OpenClaim := { program := "ythocbnaphiikeaa", sum := "d70dc8934253b3b80f7eeb5d130680a610e056fef1d78783db0b9313a0a760b8", func := "coxswain/coxswainlaw16.RtaParts", spec := "rtaParts", unfollowed := true, recurses := true, apart := false, narrowed := true }
def RtaPartsUptoSaid : Prop := rtaPartsUptoRow.holds Try.pinned (OpenSpec.upto rtaPartsSpec)

/-- 'coxswainlaw16.RtaExact', WHERE WHAT IT READS IS OF BULK AT MOST 1048576: true; the input reads as it did. -/
def rtaExactUptoRow : OpenClaim := { program := "ythocbnaphiikeaa", sum := "d70dc8934253b3b80f7eeb5d130680a610e056fef1d78783db0b9313a0a760b8", func := "coxswain/coxswainlaw16.RtaExact", spec := "rtaExact", unfollowed := true, recurses := true, apart := false, narrowed := true }
def RtaExactUptoSaid : Prop := rtaExactUptoRow.holds Try.pinned (OpenSpec.upto rtaExactSpec)

end Rows
end Go.Proofs.Ythocbnaphiikeaa
