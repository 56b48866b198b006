/-
  No cell of these rows narrows 'for every input' (looked for: loops, veiled, ifaces, maps, wideKeys, modest, calm, conditions, laid).
  DERIVED. THE GIVEN ROWS OF THIS SEAT. 26 by the template 'for every input the law returns true; each argument reads behind the call as it read before'; 0 by the template 'total and deterministic' (their statements: YtmidihnfjdgahaaTotals.lean).
  GIVEN WITH THE SEED: the statements are not yours to turn. If you find one false, say at which input.
  Laid BY PROGRAM, IN A SANDBOX (cutbox-rows.mjs): the forced cells as the released guide's own fill.sh prints them over the translation abfa1bb9b8aba0c3… (all of the seat's roots in one cut). By AI agents, Wed Nov 11 2026. No macro, syntax, notation, axiom, sorry.
-/
import Derived.Test.YtmidihnfjdgahaaChecked
import GoSem.Claim
import GoSem.ClaimJoined
import GoSem.ClaimMapViews
import Derived.JoinedTies
import Derived.KernelRfl
namespace Go.Proofs.Ytmidihnfjdgahaa
/- THE CELL 'sum', in the pinned program and in every row, IS THE sha256 OF THE DUMP (.gsa) THAT YtmidihnfjdgahaaProg.lean LOADS. Nothing in Lean hashes anything: it is a label: what it is worth is what the hold of that sum in a sandbox is worth. -/
noncomputable def Try.pinned : Pinned := { name := "ytmidihnfjdgahaa", sum := "abfa1bb9b8aba0c30f32a0b7ef160c14a4e01313528bb9d8a466220ddd8b1ab2", checked := Try.checked }
namespace Rows
def none {H : Type} : Left H := { results := [], args := [] }

/-- 'coxswainlaw16.RtaTells': WHATEVER THE INPUT: true; the input reads as it did. -/
def rtaTellsSpec : ChangeSpec := { name := "rtaTells", fn := fun _ => fun
  | [d1, d2, d3, d4, d5] => { results := [.lit (.bool true)], args := [d1, d2, d3, d4, d5] }
  | _ => none }
def rtaTellsRow : OpenClaim := { program := "ytmidihnfjdgahaa", sum := "abfa1bb9b8aba0c30f32a0b7ef160c14a4e01313528bb9d8a466220ddd8b1ab2", func := "coxswain/coxswainlaw16.RtaTells", spec := "rtaTells", unfollowed := true, recurses := true, apart := false }
def RtaTellsSaid : Prop := rtaTellsRow.holds Try.pinned (OpenSpec.ofChange rtaTellsSpec)

/-- ITS FALSE NEIGHBOUR: 'it returns false'. Refute it at one input. -/
def rtaTellsWrong : ChangeSpec := { name := "rtaTells", fn := fun _ => fun
  | [d1, d2, d3, d4, d5] => { results := [.lit (.bool false)], args := [d1, d2, d3, d4, d5] }
  | _ => none }
def RtaTellsWrongFalsely : Prop := rtaTellsRow.holds Try.pinned (OpenSpec.ofChange rtaTellsWrong)

/-- 'coxswainlaw16.RtaLeast': WHATEVER THE INPUT: true; the input reads as it did. -/
def rtaLeastSpec : ChangeSpec := { name := "rtaLeast", fn := fun _ => fun
  | [d1, d2, d3, d4] => { results := [.lit (.bool true)], args := [d1, d2, d3, d4] }
  | _ => none }
def rtaLeastRow : OpenClaim := { program := "ytmidihnfjdgahaa", sum := "abfa1bb9b8aba0c30f32a0b7ef160c14a4e01313528bb9d8a466220ddd8b1ab2", func := "coxswain/coxswainlaw16.RtaLeast", spec := "rtaLeast", unfollowed := true, recurses := true, apart := false }
def RtaLeastSaid : Prop := rtaLeastRow.holds Try.pinned (OpenSpec.ofChange rtaLeastSpec)

/-- ITS FALSE NEIGHBOUR: 'it returns false'. Refute it at one input. -/
def rtaLeastWrong : ChangeSpec := { name := "rtaLeast", fn := fun _ => fun
  | [d1, d2, d3, d4] => { results := [.lit (.bool false)], args := [d1, d2, d3, d4] }
  | _ => none }
def RtaLeastWrongFalsely : Prop := rtaLeastRow.holds Try.pinned (OpenSpec.ofChange rtaLeastWrong)

/-- 'coxswainlaw16.RtaRises': WHATEVER THE INPUT: true; the input reads as it did. -/
def rtaRisesSpec : ChangeSpec := { name := "rtaRises", fn := fun _ => fun
  | [d1, d2, d3, d4, d5] => { results := [.lit (.bool true)], args := [d1, d2, d3, d4, d5] }
  | _ => none }
def rtaRisesRow : OpenClaim := { program := "ytmidihnfjdgahaa", sum := "abfa1bb9b8aba0c30f32a0b7ef160c14a4e01313528bb9d8a466220ddd8b1ab2", func := "coxswain/coxswainlaw16.RtaRises", spec := "rtaRises", unfollowed := true, recurses := true, apart := false }
def RtaRisesSaid : Prop := rtaRisesRow.holds Try.pinned (OpenSpec.ofChange rtaRisesSpec)

/-- ITS FALSE NEIGHBOUR: 'it returns false'. Refute it at one input. -/
def rtaRisesWrong : ChangeSpec := { name := "rtaRises", fn := fun _ => fun
  | [d1, d2, d3, d4, d5] => { results := [.lit (.bool false)], args := [d1, d2, d3, d4, d5] }
  | _ => none }
def RtaRisesWrongFalsely : Prop := rtaRisesRow.holds Try.pinned (OpenSpec.ofChange rtaRisesWrong)

/-- 'coxswainlaw16.RtaParts': WHATEVER THE INPUT: true; the input reads as it did. -/
def rtaPartsSpec : ChangeSpec := { name := "rtaParts", fn := fun _ => fun
  | [d1, d2, d3, d4] => { results := [.lit (.bool true)], args := [d1, d2, d3, d4] }
  | _ => none }
def rtaPartsRow : OpenClaim := { program := "ytmidihnfjdgahaa", sum := "abfa1bb9b8aba0c30f32a0b7ef160c14a4e01313528bb9d8a466220ddd8b1ab2", func := "coxswain/coxswainlaw16.RtaParts", spec := "rtaParts", unfollowed := true, recurses := true, apart := false }
def RtaPartsSaid : Prop := rtaPartsRow.holds Try.pinned (OpenSpec.ofChange rtaPartsSpec)

/-- ITS FALSE NEIGHBOUR: 'it returns false'. Refute it at one input. -/
def rtaPartsWrong : ChangeSpec := { name := "rtaParts", fn := fun _ => fun
  | [d1, d2, d3, d4] => { results := [.lit (.bool false)], args := [d1, d2, d3, d4] }
  | _ => none }
def RtaPartsWrongFalsely : Prop := rtaPartsRow.holds Try.pinned (OpenSpec.ofChange rtaPartsWrong)

/-- 'coxswainlaw16.RtaExact': WHATEVER THE INPUT: true; the input reads as it did. -/
def rtaExactSpec : ChangeSpec := { name := "rtaExact", fn := fun _ => fun
  | [d1, d2, d3, d4] => { results := [.lit (.bool true)], args := [d1, d2, d3, d4] }
  | _ => none }
def rtaExactRow : OpenClaim := { program := "ytmidihnfjdgahaa", sum := "abfa1bb9b8aba0c30f32a0b7ef160c14a4e01313528bb9d8a466220ddd8b1ab2", func := "coxswain/coxswainlaw16.RtaExact", spec := "rtaExact", unfollowed := true, recurses := true, apart := false }
def RtaExactSaid : Prop := rtaExactRow.holds Try.pinned (OpenSpec.ofChange rtaExactSpec)

/-- ITS FALSE NEIGHBOUR: 'it returns false'. Refute it at one input. -/
def rtaExactWrong : ChangeSpec := { name := "rtaExact", fn := fun _ => fun
  | [d1, d2, d3, d4] => { results := [.lit (.bool false)], args := [d1, d2, d3, d4] }
  | _ => none }
def RtaExactWrongFalsely : Prop := rtaExactRow.holds Try.pinned (OpenSpec.ofChange rtaExactWrong)

/-- 'coxswainlaw7.PrioCompares': WHATEVER THE INPUT: true; the input reads as it did. -/
def prioComparesSpec : ChangeSpec := { name := "prioCompares", fn := fun _ => fun
  | [d1, d2] => { results := [.lit (.bool true)], args := [d1, d2] }
  | _ => none }
def prioComparesRow : OpenClaim := { program := "ytmidihnfjdgahaa", sum := "abfa1bb9b8aba0c30f32a0b7ef160c14a4e01313528bb9d8a466220ddd8b1ab2", func := "coxswain/coxswainlaw7.PrioCompares", spec := "prioCompares", unfollowed := true, recurses := true, apart := false }
def PrioComparesSaid : Prop := prioComparesRow.holds Try.pinned (OpenSpec.ofChange prioComparesSpec)

/-- ITS FALSE NEIGHBOUR: 'it returns false'. Refute it at one input. -/
def prioComparesWrong : ChangeSpec := { name := "prioCompares", fn := fun _ => fun
  | [d1, d2] => { results := [.lit (.bool false)], args := [d1, d2] }
  | _ => none }
def PrioComparesWrongFalsely : Prop := prioComparesRow.holds Try.pinned (OpenSpec.ofChange prioComparesWrong)

/-- 'coxswainlaw7.PrioMost': WHATEVER THE INPUT: true; the input reads as it did. -/
def prioMostSpec : ChangeSpec := { name := "prioMost", fn := fun _ => fun
  | [d1, d2] => { results := [.lit (.bool true)], args := [d1, d2] }
  | _ => none }
def prioMostRow : OpenClaim := { program := "ytmidihnfjdgahaa", sum := "abfa1bb9b8aba0c30f32a0b7ef160c14a4e01313528bb9d8a466220ddd8b1ab2", func := "coxswain/coxswainlaw7.PrioMost", spec := "prioMost", unfollowed := true, recurses := true, apart := false }
def PrioMostSaid : Prop := prioMostRow.holds Try.pinned (OpenSpec.ofChange prioMostSpec)

/-- ITS FALSE NEIGHBOUR: 'it returns false'. Refute it at one input. -/
def prioMostWrong : ChangeSpec := { name := "prioMost", fn := fun _ => fun
  | [d1, d2] => { results := [.lit (.bool false)], args := [d1, d2] }
  | _ => none }
def PrioMostWrongFalsely : Prop := prioMostRow.holds Try.pinned (OpenSpec.ofChange prioMostWrong)

/-- 'coxswainlaw7.PrioOrder': WHATEVER THE INPUT: true; the input reads as it did. -/
def prioOrderSpec : ChangeSpec := { name := "prioOrder", fn := fun _ => fun
  | [d1, d2, d3] => { results := [.lit (.bool true)], args := [d1, d2, d3] }
  | _ => none }
def prioOrderRow : OpenClaim := { program := "ytmidihnfjdgahaa", sum := "abfa1bb9b8aba0c30f32a0b7ef160c14a4e01313528bb9d8a466220ddd8b1ab2", func := "coxswain/coxswainlaw7.PrioOrder", spec := "prioOrder", unfollowed := true, recurses := true, apart := false }
def PrioOrderSaid : Prop := prioOrderRow.holds Try.pinned (OpenSpec.ofChange prioOrderSpec)

/-- ITS FALSE NEIGHBOUR: 'it returns false'. Refute it at one input. -/
def prioOrderWrong : ChangeSpec := { name := "prioOrder", fn := fun _ => fun
  | [d1, d2, d3] => { results := [.lit (.bool false)], args := [d1, d2, d3] }
  | _ => none }
def PrioOrderWrongFalsely : Prop := prioOrderRow.holds Try.pinned (OpenSpec.ofChange prioOrderWrong)

/-- 'coxswainlaw2.BitsTells': WHATEVER THE INPUT: true; the input reads as it did. -/
def bitsTellsSpec : ChangeSpec := { name := "bitsTells", fn := fun _ => fun
  | [d1, d2] => { results := [.lit (.bool true)], args := [d1, d2] }
  | _ => none }
def bitsTellsRow : OpenClaim := { program := "ytmidihnfjdgahaa", sum := "abfa1bb9b8aba0c30f32a0b7ef160c14a4e01313528bb9d8a466220ddd8b1ab2", func := "coxswain/coxswainlaw2.BitsTells", spec := "bitsTells", unfollowed := true, recurses := true, apart := false }
def BitsTellsSaid : Prop := bitsTellsRow.holds Try.pinned (OpenSpec.ofChange bitsTellsSpec)

/-- ITS FALSE NEIGHBOUR: 'it returns false'. Refute it at one input. -/
def bitsTellsWrong : ChangeSpec := { name := "bitsTells", fn := fun _ => fun
  | [d1, d2] => { results := [.lit (.bool false)], args := [d1, d2] }
  | _ => none }
def BitsTellsWrongFalsely : Prop := bitsTellsRow.holds Try.pinned (OpenSpec.ofChange bitsTellsWrong)

/-- 'coxswainlaw2.BitsBack': WHATEVER THE INPUT: true; the input reads as it did. -/
def bitsBackSpec : ChangeSpec := { name := "bitsBack", fn := fun _ => fun
  | [d1, d2, d3] => { results := [.lit (.bool true)], args := [d1, d2, d3] }
  | _ => none }
def bitsBackRow : OpenClaim := { program := "ytmidihnfjdgahaa", sum := "abfa1bb9b8aba0c30f32a0b7ef160c14a4e01313528bb9d8a466220ddd8b1ab2", func := "coxswain/coxswainlaw2.BitsBack", spec := "bitsBack", unfollowed := true, recurses := true, apart := false }
def BitsBackSaid : Prop := bitsBackRow.holds Try.pinned (OpenSpec.ofChange bitsBackSpec)

/-- ITS FALSE NEIGHBOUR: 'it returns false'. Refute it at one input. -/
def bitsBackWrong : ChangeSpec := { name := "bitsBack", fn := fun _ => fun
  | [d1, d2, d3] => { results := [.lit (.bool false)], args := [d1, d2, d3] }
  | _ => none }
def BitsBackWrongFalsely : Prop := bitsBackRow.holds Try.pinned (OpenSpec.ofChange bitsBackWrong)

/-- 'coxswainlaw2.BitsAll': WHATEVER THE INPUT: true; the input reads as it did. -/
def bitsAllSpec : ChangeSpec := { name := "bitsAll", fn := fun _ => fun
  | [d] => { results := [.lit (.bool true)], args := [d] }
  | _ => none }
def bitsAllRow : OpenClaim := { program := "ytmidihnfjdgahaa", sum := "abfa1bb9b8aba0c30f32a0b7ef160c14a4e01313528bb9d8a466220ddd8b1ab2", func := "coxswain/coxswainlaw2.BitsAll", spec := "bitsAll", unfollowed := true, recurses := true, apart := false }
def BitsAllSaid : Prop := bitsAllRow.holds Try.pinned (OpenSpec.ofChange bitsAllSpec)

/-- ITS FALSE NEIGHBOUR: 'it returns false'. Refute it at one input. -/
def bitsAllWrong : ChangeSpec := { name := "bitsAll", fn := fun _ => fun
  | [d] => { results := [.lit (.bool false)], args := [d] }
  | _ => none }
def BitsAllWrongFalsely : Prop := bitsAllRow.holds Try.pinned (OpenSpec.ofChange bitsAllWrong)

/-- 'coxswainlaw2.BitsWhole': WHATEVER THE INPUT: true; the input reads as it did. -/
def bitsWholeSpec : ChangeSpec := { name := "bitsWhole", fn := fun _ => fun
  | [d] => { results := [.lit (.bool true)], args := [d] }
  | _ => none }
def bitsWholeRow : OpenClaim := { program := "ytmidihnfjdgahaa", sum := "abfa1bb9b8aba0c30f32a0b7ef160c14a4e01313528bb9d8a466220ddd8b1ab2", func := "coxswain/coxswainlaw2.BitsWhole", spec := "bitsWhole", unfollowed := true, recurses := true, apart := false }
def BitsWholeSaid : Prop := bitsWholeRow.holds Try.pinned (OpenSpec.ofChange bitsWholeSpec)

/-- ITS FALSE NEIGHBOUR: 'it returns false'. Refute it at one input. -/
def bitsWholeWrong : ChangeSpec := { name := "bitsWhole", fn := fun _ => fun
  | [d] => { results := [.lit (.bool false)], args := [d] }
  | _ => none }
def BitsWholeWrongFalsely : Prop := bitsWholeRow.holds Try.pinned (OpenSpec.ofChange bitsWholeWrong)

/-- 'coxswainlaw17.DemandJobs': WHATEVER THE INPUT: true; the input reads as it did. -/
def demandJobsSpec : ChangeSpec := { name := "demandJobs", fn := fun _ => fun
  | [d1, d2] => { results := [.lit (.bool true)], args := [d1, d2] }
  | _ => none }
def demandJobsRow : OpenClaim := { program := "ytmidihnfjdgahaa", sum := "abfa1bb9b8aba0c30f32a0b7ef160c14a4e01313528bb9d8a466220ddd8b1ab2", func := "coxswain/coxswainlaw17.DemandJobs", spec := "demandJobs", unfollowed := true, recurses := true, apart := false }
def DemandJobsSaid : Prop := demandJobsRow.holds Try.pinned (OpenSpec.ofChange demandJobsSpec)

/-- ITS FALSE NEIGHBOUR: 'it returns false'. Refute it at one input. -/
def demandJobsWrong : ChangeSpec := { name := "demandJobs", fn := fun _ => fun
  | [d1, d2] => { results := [.lit (.bool false)], args := [d1, d2] }
  | _ => none }
def DemandJobsWrongFalsely : Prop := demandJobsRow.holds Try.pinned (OpenSpec.ofChange demandJobsWrong)

/-- 'coxswainlaw17.DemandLess': WHATEVER THE INPUT: true; the input reads as it did. -/
def demandLessSpec : ChangeSpec := { name := "demandLess", fn := fun _ => fun
  | [d1, d2, d3, d4] => { results := [.lit (.bool true)], args := [d1, d2, d3, d4] }
  | _ => none }
def demandLessRow : OpenClaim := { program := "ytmidihnfjdgahaa", sum := "abfa1bb9b8aba0c30f32a0b7ef160c14a4e01313528bb9d8a466220ddd8b1ab2", func := "coxswain/coxswainlaw17.DemandLess", spec := "demandLess", unfollowed := true, recurses := true, apart := false }
def DemandLessSaid : Prop := demandLessRow.holds Try.pinned (OpenSpec.ofChange demandLessSpec)

/-- ITS FALSE NEIGHBOUR: 'it returns false'. Refute it at one input. -/
def demandLessWrong : ChangeSpec := { name := "demandLess", fn := fun _ => fun
  | [d1, d2, d3, d4] => { results := [.lit (.bool false)], args := [d1, d2, d3, d4] }
  | _ => none }
def DemandLessWrongFalsely : Prop := demandLessRow.holds Try.pinned (OpenSpec.ofChange demandLessWrong)

/-- 'coxswainlaw17.DemandAlone': WHATEVER THE INPUT: true; the input reads as it did. -/
def demandAloneSpec : ChangeSpec := { name := "demandAlone", fn := fun _ => fun
  | [d1, d2, d3, d4] => { results := [.lit (.bool true)], args := [d1, d2, d3, d4] }
  | _ => none }
def demandAloneRow : OpenClaim := { program := "ytmidihnfjdgahaa", sum := "abfa1bb9b8aba0c30f32a0b7ef160c14a4e01313528bb9d8a466220ddd8b1ab2", func := "coxswain/coxswainlaw17.DemandAlone", spec := "demandAlone", unfollowed := true, recurses := true, apart := false }
def DemandAloneSaid : Prop := demandAloneRow.holds Try.pinned (OpenSpec.ofChange demandAloneSpec)

/-- ITS FALSE NEIGHBOUR: 'it returns false'. Refute it at one input. -/
def demandAloneWrong : ChangeSpec := { name := "demandAlone", fn := fun _ => fun
  | [d1, d2, d3, d4] => { results := [.lit (.bool false)], args := [d1, d2, d3, d4] }
  | _ => none }
def DemandAloneWrongFalsely : Prop := demandAloneRow.holds Try.pinned (OpenSpec.ofChange demandAloneWrong)

/-- 'coxswainlaw17.DemandGrows': WHATEVER THE INPUT: true; the input reads as it did. -/
def demandGrowsSpec : ChangeSpec := { name := "demandGrows", fn := fun _ => fun
  | [d1, d2, d3] => { results := [.lit (.bool true)], args := [d1, d2, d3] }
  | _ => none }
def demandGrowsRow : OpenClaim := { program := "ytmidihnfjdgahaa", sum := "abfa1bb9b8aba0c30f32a0b7ef160c14a4e01313528bb9d8a466220ddd8b1ab2", func := "coxswain/coxswainlaw17.DemandGrows", spec := "demandGrows", unfollowed := true, recurses := true, apart := false }
def DemandGrowsSaid : Prop := demandGrowsRow.holds Try.pinned (OpenSpec.ofChange demandGrowsSpec)

/-- ITS FALSE NEIGHBOUR: 'it returns false'. Refute it at one input. -/
def demandGrowsWrong : ChangeSpec := { name := "demandGrows", fn := fun _ => fun
  | [d1, d2, d3] => { results := [.lit (.bool false)], args := [d1, d2, d3] }
  | _ => none }
def DemandGrowsWrongFalsely : Prop := demandGrowsRow.holds Try.pinned (OpenSpec.ofChange demandGrowsWrong)

/-- 'coxswainlaw10.RankTells': WHATEVER THE INPUT: true; the input reads as it did. -/
def rankTellsSpec : ChangeSpec := { name := "rankTells", fn := fun _ => fun
  | [d1, d2, d3, d4] => { results := [.lit (.bool true)], args := [d1, d2, d3, d4] }
  | _ => none }
def rankTellsRow : OpenClaim := { program := "ytmidihnfjdgahaa", sum := "abfa1bb9b8aba0c30f32a0b7ef160c14a4e01313528bb9d8a466220ddd8b1ab2", func := "coxswain/coxswainlaw10.RankTells", spec := "rankTells", unfollowed := true, recurses := true, apart := false }
def RankTellsSaid : Prop := rankTellsRow.holds Try.pinned (OpenSpec.ofChange rankTellsSpec)

/-- ITS FALSE NEIGHBOUR: 'it returns false'. Refute it at one input. -/
def rankTellsWrong : ChangeSpec := { name := "rankTells", fn := fun _ => fun
  | [d1, d2, d3, d4] => { results := [.lit (.bool false)], args := [d1, d2, d3, d4] }
  | _ => none }
def RankTellsWrongFalsely : Prop := rankTellsRow.holds Try.pinned (OpenSpec.ofChange rankTellsWrong)

/-- 'coxswainlaw10.RankRises': WHATEVER THE INPUT: true; the input reads as it did. -/
def rankRisesSpec : ChangeSpec := { name := "rankRises", fn := fun _ => fun
  | [d1, d2, d3, d4] => { results := [.lit (.bool true)], args := [d1, d2, d3, d4] }
  | _ => none }
def rankRisesRow : OpenClaim := { program := "ytmidihnfjdgahaa", sum := "abfa1bb9b8aba0c30f32a0b7ef160c14a4e01313528bb9d8a466220ddd8b1ab2", func := "coxswain/coxswainlaw10.RankRises", spec := "rankRises", unfollowed := true, recurses := true, apart := false }
def RankRisesSaid : Prop := rankRisesRow.holds Try.pinned (OpenSpec.ofChange rankRisesSpec)

/-- ITS FALSE NEIGHBOUR: 'it returns false'. Refute it at one input. -/
def rankRisesWrong : ChangeSpec := { name := "rankRises", fn := fun _ => fun
  | [d1, d2, d3, d4] => { results := [.lit (.bool false)], args := [d1, d2, d3, d4] }
  | _ => none }
def RankRisesWrongFalsely : Prop := rankRisesRow.holds Try.pinned (OpenSpec.ofChange rankRisesWrong)

/-- 'coxswainlaw10.RankNone': WHATEVER THE INPUT: true; the input reads as it did. -/
def rankNoneSpec : ChangeSpec := { name := "rankNone", fn := fun _ => fun
  | [d1, d2] => { results := [.lit (.bool true)], args := [d1, d2] }
  | _ => none }
def rankNoneRow : OpenClaim := { program := "ytmidihnfjdgahaa", sum := "abfa1bb9b8aba0c30f32a0b7ef160c14a4e01313528bb9d8a466220ddd8b1ab2", func := "coxswain/coxswainlaw10.RankNone", spec := "rankNone", unfollowed := true, recurses := true, apart := false }
def RankNoneSaid : Prop := rankNoneRow.holds Try.pinned (OpenSpec.ofChange rankNoneSpec)

/-- ITS FALSE NEIGHBOUR: 'it returns false'. Refute it at one input. -/
def rankNoneWrong : ChangeSpec := { name := "rankNone", fn := fun _ => fun
  | [d1, d2] => { results := [.lit (.bool false)], args := [d1, d2] }
  | _ => none }
def RankNoneWrongFalsely : Prop := rankNoneRow.holds Try.pinned (OpenSpec.ofChange rankNoneWrong)

/-- 'coxswainlaw11.GraphCounts': WHATEVER THE INPUT: true; the input reads as it did. -/
def graphCountsSpec : ChangeSpec := { name := "graphCounts", fn := fun _ => fun
  | [d1, d2, d3] => { results := [.lit (.bool true)], args := [d1, d2, d3] }
  | _ => none }
def graphCountsRow : OpenClaim := { program := "ytmidihnfjdgahaa", sum := "abfa1bb9b8aba0c30f32a0b7ef160c14a4e01313528bb9d8a466220ddd8b1ab2", func := "coxswain/coxswainlaw11.GraphCounts", spec := "graphCounts", unfollowed := true, recurses := true, apart := false }
def GraphCountsSaid : Prop := graphCountsRow.holds Try.pinned (OpenSpec.ofChange graphCountsSpec)

/-- ITS FALSE NEIGHBOUR: 'it returns false'. Refute it at one input. -/
def graphCountsWrong : ChangeSpec := { name := "graphCounts", fn := fun _ => fun
  | [d1, d2, d3] => { results := [.lit (.bool false)], args := [d1, d2, d3] }
  | _ => none }
def GraphCountsWrongFalsely : Prop := graphCountsRow.holds Try.pinned (OpenSpec.ofChange graphCountsWrong)

/-- 'coxswainlaw11.GraphFixed': WHATEVER THE INPUT: true; the input reads as it did. -/
def graphFixedSpec : ChangeSpec := { name := "graphFixed", fn := fun _ => fun
  | [d1, d2, d3] => { results := [.lit (.bool true)], args := [d1, d2, d3] }
  | _ => none }
def graphFixedRow : OpenClaim := { program := "ytmidihnfjdgahaa", sum := "abfa1bb9b8aba0c30f32a0b7ef160c14a4e01313528bb9d8a466220ddd8b1ab2", func := "coxswain/coxswainlaw11.GraphFixed", spec := "graphFixed", unfollowed := true, recurses := true, apart := false }
def GraphFixedSaid : Prop := graphFixedRow.holds Try.pinned (OpenSpec.ofChange graphFixedSpec)

/-- ITS FALSE NEIGHBOUR: 'it returns false'. Refute it at one input. -/
def graphFixedWrong : ChangeSpec := { name := "graphFixed", fn := fun _ => fun
  | [d1, d2, d3] => { results := [.lit (.bool false)], args := [d1, d2, d3] }
  | _ => none }
def GraphFixedWrongFalsely : Prop := graphFixedRow.holds Try.pinned (OpenSpec.ofChange graphFixedWrong)

/-- 'coxswainlaw11.GraphMore': WHATEVER THE INPUT: true; the input reads as it did. -/
def graphMoreSpec : ChangeSpec := { name := "graphMore", fn := fun _ => fun
  | [d1, d2, d3, d4, d5] => { results := [.lit (.bool true)], args := [d1, d2, d3, d4, d5] }
  | _ => none }
def graphMoreRow : OpenClaim := { program := "ytmidihnfjdgahaa", sum := "abfa1bb9b8aba0c30f32a0b7ef160c14a4e01313528bb9d8a466220ddd8b1ab2", func := "coxswain/coxswainlaw11.GraphMore", spec := "graphMore", unfollowed := true, recurses := true, apart := false }
def GraphMoreSaid : Prop := graphMoreRow.holds Try.pinned (OpenSpec.ofChange graphMoreSpec)

/-- ITS FALSE NEIGHBOUR: 'it returns false'. Refute it at one input. -/
def graphMoreWrong : ChangeSpec := { name := "graphMore", fn := fun _ => fun
  | [d1, d2, d3, d4, d5] => { results := [.lit (.bool false)], args := [d1, d2, d3, d4, d5] }
  | _ => none }
def GraphMoreWrongFalsely : Prop := graphMoreRow.holds Try.pinned (OpenSpec.ofChange graphMoreWrong)

/-- 'coxswainlaw11.GraphTells': WHATEVER THE INPUT: true; the input reads as it did. -/
def graphTellsSpec : ChangeSpec := { name := "graphTells", fn := fun _ => fun
  | [d1, d2, d3, d4] => { results := [.lit (.bool true)], args := [d1, d2, d3, d4] }
  | _ => none }
def graphTellsRow : OpenClaim := { program := "ytmidihnfjdgahaa", sum := "abfa1bb9b8aba0c30f32a0b7ef160c14a4e01313528bb9d8a466220ddd8b1ab2", func := "coxswain/coxswainlaw11.GraphTells", spec := "graphTells", unfollowed := true, recurses := true, apart := false }
def GraphTellsSaid : Prop := graphTellsRow.holds Try.pinned (OpenSpec.ofChange graphTellsSpec)

/-- ITS FALSE NEIGHBOUR: 'it returns false'. Refute it at one input. -/
def graphTellsWrong : ChangeSpec := { name := "graphTells", fn := fun _ => fun
  | [d1, d2, d3, d4] => { results := [.lit (.bool false)], args := [d1, d2, d3, d4] }
  | _ => none }
def GraphTellsWrongFalsely : Prop := graphTellsRow.holds Try.pinned (OpenSpec.ofChange graphTellsWrong)

/-- 'coxswainlaw11.GraphAlone': WHATEVER THE INPUT: true; the input reads as it did. -/
def graphAloneSpec : ChangeSpec := { name := "graphAlone", fn := fun _ => fun
  | [d1, d2, d3, d4] => { results := [.lit (.bool true)], args := [d1, d2, d3, d4] }
  | _ => none }
def graphAloneRow : OpenClaim := { program := "ytmidihnfjdgahaa", sum := "abfa1bb9b8aba0c30f32a0b7ef160c14a4e01313528bb9d8a466220ddd8b1ab2", func := "coxswain/coxswainlaw11.GraphAlone", spec := "graphAlone", unfollowed := true, recurses := true, apart := false }
def GraphAloneSaid : Prop := graphAloneRow.holds Try.pinned (OpenSpec.ofChange graphAloneSpec)

/-- ITS FALSE NEIGHBOUR: 'it returns false'. Refute it at one input. -/
def graphAloneWrong : ChangeSpec := { name := "graphAlone", fn := fun _ => fun
  | [d1, d2, d3, d4] => { results := [.lit (.bool false)], args := [d1, d2, d3, d4] }
  | _ => none }
def GraphAloneWrongFalsely : Prop := graphAloneRow.holds Try.pinned (OpenSpec.ofChange graphAloneWrong)

/-- 'coxswainlaw31.IdealFirst': WHATEVER THE INPUT: true; the input reads as it did. -/
def idealFirstSpec : ChangeSpec := { name := "idealFirst", fn := fun _ => fun
  | [d1, d2] => { results := [.lit (.bool true)], args := [d1, d2] }
  | _ => none }
def idealFirstRow : OpenClaim := { program := "ytmidihnfjdgahaa", sum := "abfa1bb9b8aba0c30f32a0b7ef160c14a4e01313528bb9d8a466220ddd8b1ab2", func := "coxswain/coxswainlaw31.IdealFirst", spec := "idealFirst", unfollowed := true, recurses := true, apart := false }
def IdealFirstSaid : Prop := idealFirstRow.holds Try.pinned (OpenSpec.ofChange idealFirstSpec)

/-- ITS FALSE NEIGHBOUR: 'it returns false'. Refute it at one input. -/
def idealFirstWrong : ChangeSpec := { name := "idealFirst", fn := fun _ => fun
  | [d1, d2] => { results := [.lit (.bool false)], args := [d1, d2] }
  | _ => none }
def IdealFirstWrongFalsely : Prop := idealFirstRow.holds Try.pinned (OpenSpec.ofChange idealFirstWrong)

/-- 'coxswainlaw31.IdealAlone': WHATEVER THE INPUT: true; the input reads as it did. -/
def idealAloneSpec : ChangeSpec := { name := "idealAlone", fn := fun _ => fun
  | [d] => { results := [.lit (.bool true)], args := [d] }
  | _ => none }
def idealAloneRow : OpenClaim := { program := "ytmidihnfjdgahaa", sum := "abfa1bb9b8aba0c30f32a0b7ef160c14a4e01313528bb9d8a466220ddd8b1ab2", func := "coxswain/coxswainlaw31.IdealAlone", spec := "idealAlone", unfollowed := true, recurses := true, apart := false }
def IdealAloneSaid : Prop := idealAloneRow.holds Try.pinned (OpenSpec.ofChange idealAloneSpec)

/-- ITS FALSE NEIGHBOUR: 'it returns false'. Refute it at one input. -/
def idealAloneWrong : ChangeSpec := { name := "idealAlone", fn := fun _ => fun
  | [d] => { results := [.lit (.bool false)], args := [d] }
  | _ => none }
def IdealAloneWrongFalsely : Prop := idealAloneRow.holds Try.pinned (OpenSpec.ofChange idealAloneWrong)

/- THE SECOND FORM. 'bulk': how many values and letters a reading holds, each counted each time it is reached (what is shared counts as often as it is met; a slice's spare places count too). A statement '..UptoSaid' is the law's where the arguments, and the package variables that the reading takes, are together of bulk at most 1048576: NARROWER than '..Said'. Prove '..Said' where nothing that the law and all that it calls make is longer than what came in: it says more and counts as full. Else prove '..UptoSaid'. A law counts once. -/
mutual
def uptoBulk {H : Type} : DataW H → Nat
  | .lit (.string bytes) => bytes.length + 1
  | .lit _ => 1
  | .nil => 1
  | .ptr d => uptoBulk d + 1
  | .slice elems spare => uptoBulkAll elems + uptoBulkAll spare + 1
  | .agg parts => uptoBulkAll parts + 1
  | .iface _ d => uptoBulk d + 1
  | .map entries => uptoBulkEntries entries + 1
  | .held _ => 1
def uptoBulkAll {H : Type} : List (DataW H) → Nat
  | [] => 0
  | d :: r => uptoBulk d + uptoBulkAll r
def uptoBulkEntries {H : Type} : List (Lit × DataW H) → Nat
  | [] => 0
  | x :: r => uptoBulkEntry x + uptoBulkEntries r
def uptoBulkEntry {H : Type} : Lit × DataW H → Nat
  | (.string bytes, d) => bytes.length + uptoBulk d + 1
  | (_, d) => uptoBulk d + 1
 end
def uptoSmall : (H : Type) → List (DataW H) → Bool := fun _ ds => decide (uptoBulkAll ds ≤ 1048576)
def OpenSpec.upto (s : _root_.Go.ChangeSpec) : _root_.Go.OpenSpec := { _root_.Go.OpenSpec.ofChange s with cond := some uptoSmall }

/-- 'coxswainlaw16.RtaTells', WHERE WHAT IT READS IS OF BULK AT MOST 1048576: true; the input reads as it did. -/
def rtaTellsUptoRow : OpenClaim := { program := "ytmidihnfjdgahaa", sum := "abfa1bb9b8aba0c30f32a0b7ef160c14a4e01313528bb9d8a466220ddd8b1ab2", func := "coxswain/coxswainlaw16.RtaTells", spec := "rtaTells", unfollowed := true, recurses := true, apart := false, narrowed := true }
def RtaTellsUptoSaid : Prop := rtaTellsUptoRow.holds Try.pinned (OpenSpec.upto rtaTellsSpec)

/-- 'coxswainlaw16.RtaLeast', WHERE WHAT IT READS IS OF BULK AT MOST 1048576: true; the input reads as it did. -/
def rtaLeastUptoRow : OpenClaim := { program := "ytmidihnfjdgahaa", sum := "abfa1bb9b8aba0c30f32a0b7ef160c14a4e01313528bb9d8a466220ddd8b1ab2", func := "coxswain/coxswainlaw16.RtaLeast", spec := "rtaLeast", unfollowed := true, recurses := true, apart := false, narrowed := true }
def RtaLeastUptoSaid : Prop := rtaLeastUptoRow.holds Try.pinned (OpenSpec.upto rtaLeastSpec)

/-- 'coxswainlaw16.RtaRises', WHERE WHAT IT READS IS OF BULK AT MOST 1048576: true; the input reads as it did. -/
def rtaRisesUptoRow : OpenClaim := { program := "ytmidihnfjdgahaa", sum := "abfa1bb9b8aba0c30f32a0b7ef160c14a4e01313528bb9d8a466220ddd8b1ab2", func := "coxswain/coxswainlaw16.RtaRises", spec := "rtaRises", unfollowed := true, recurses := true, apart := false, narrowed := true }
def RtaRisesUptoSaid : Prop := rtaRisesUptoRow.holds Try.pinned (OpenSpec.upto rtaRisesSpec)

/-- 'coxswainlaw16.RtaParts', WHERE WHAT IT READS IS OF BULK AT MOST 1048576: true; the input reads as it did. -/
def rtaPartsUptoRow : OpenClaim := { program := "ytmidihnfjdgahaa", sum := "abfa1bb9b8aba0c30f32a0b7ef160c14a4e01313528bb9d8a466220ddd8b1ab2", func := "coxswain/coxswainlaw16.RtaParts", spec := "rtaParts", unfollowed := true, recurses := true, apart := false, narrowed := true }
def RtaPartsUptoSaid : Prop := rtaPartsUptoRow.holds Try.pinned (OpenSpec.upto rtaPartsSpec)

/-- 'coxswainlaw16.RtaExact', WHERE WHAT IT READS IS OF BULK AT MOST 1048576: true; the input reads as it did. -/
def rtaExactUptoRow : OpenClaim := { program := "ytmidihnfjdgahaa", sum := "abfa1bb9b8aba0c30f32a0b7ef160c14a4e01313528bb9d8a466220ddd8b1ab2", func := "coxswain/coxswainlaw16.RtaExact", spec := "rtaExact", unfollowed := true, recurses := true, apart := false, narrowed := true }
def RtaExactUptoSaid : Prop := rtaExactUptoRow.holds Try.pinned (OpenSpec.upto rtaExactSpec)

/-- 'coxswainlaw7.PrioCompares', WHERE WHAT IT READS IS OF BULK AT MOST 1048576: true; the input reads as it did. -/
def prioComparesUptoRow : OpenClaim := { program := "ytmidihnfjdgahaa", sum := "abfa1bb9b8aba0c30f32a0b7ef160c14a4e01313528bb9d8a466220ddd8b1ab2", func := "coxswain/coxswainlaw7.PrioCompares", spec := "prioCompares", unfollowed := true, recurses := true, apart := false, narrowed := true }
def PrioComparesUptoSaid : Prop := prioComparesUptoRow.holds Try.pinned (OpenSpec.upto prioComparesSpec)

/-- 'coxswainlaw7.PrioMost', WHERE WHAT IT READS IS OF BULK AT MOST 1048576: true; the input reads as it did. -/
def prioMostUptoRow : OpenClaim := { program := "ytmidihnfjdgahaa", sum := "abfa1bb9b8aba0c30f32a0b7ef160c14a4e01313528bb9d8a466220ddd8b1ab2", func := "coxswain/coxswainlaw7.PrioMost", spec := "prioMost", unfollowed := true, recurses := true, apart := false, narrowed := true }
def PrioMostUptoSaid : Prop := prioMostUptoRow.holds Try.pinned (OpenSpec.upto prioMostSpec)

/-- 'coxswainlaw7.PrioOrder', WHERE WHAT IT READS IS OF BULK AT MOST 1048576: true; the input reads as it did. -/
def prioOrderUptoRow : OpenClaim := { program := "ytmidihnfjdgahaa", sum := "abfa1bb9b8aba0c30f32a0b7ef160c14a4e01313528bb9d8a466220ddd8b1ab2", func := "coxswain/coxswainlaw7.PrioOrder", spec := "prioOrder", unfollowed := true, recurses := true, apart := false, narrowed := true }
def PrioOrderUptoSaid : Prop := prioOrderUptoRow.holds Try.pinned (OpenSpec.upto prioOrderSpec)

/-- 'coxswainlaw2.BitsTells', WHERE WHAT IT READS IS OF BULK AT MOST 1048576: true; the input reads as it did. -/
def bitsTellsUptoRow : OpenClaim := { program := "ytmidihnfjdgahaa", sum := "abfa1bb9b8aba0c30f32a0b7ef160c14a4e01313528bb9d8a466220ddd8b1ab2", func := "coxswain/coxswainlaw2.BitsTells", spec := "bitsTells", unfollowed := true, recurses := true, apart := false, narrowed := true }
def BitsTellsUptoSaid : Prop := bitsTellsUptoRow.holds Try.pinned (OpenSpec.upto bitsTellsSpec)

/-- 'coxswainlaw2.BitsBack', WHERE WHAT IT READS IS OF BULK AT MOST 1048576: true; the input reads as it did. -/
def bitsBackUptoRow : OpenClaim := { program := "ytmidihnfjdgahaa", sum := "abfa1bb9b8aba0c30f32a0b7ef160c14a4e01313528bb9d8a466220ddd8b1ab2", func := "coxswain/coxswainlaw2.BitsBack", spec := "bitsBack", unfollowed := true, recurses := true, apart := false, narrowed := true }
def BitsBackUptoSaid : Prop := bitsBackUptoRow.holds Try.pinned (OpenSpec.upto bitsBackSpec)

/-- 'coxswainlaw2.BitsAll', WHERE WHAT IT READS IS OF BULK AT MOST 1048576: true; the input reads as it did. -/
def bitsAllUptoRow : OpenClaim := { program := "ytmidihnfjdgahaa", sum := "abfa1bb9b8aba0c30f32a0b7ef160c14a4e01313528bb9d8a466220ddd8b1ab2", func := "coxswain/coxswainlaw2.BitsAll", spec := "bitsAll", unfollowed := true, recurses := true, apart := false, narrowed := true }
def BitsAllUptoSaid : Prop := bitsAllUptoRow.holds Try.pinned (OpenSpec.upto bitsAllSpec)

/-- 'coxswainlaw2.BitsWhole', WHERE WHAT IT READS IS OF BULK AT MOST 1048576: true; the input reads as it did. -/
def bitsWholeUptoRow : OpenClaim := { program := "ytmidihnfjdgahaa", sum := "abfa1bb9b8aba0c30f32a0b7ef160c14a4e01313528bb9d8a466220ddd8b1ab2", func := "coxswain/coxswainlaw2.BitsWhole", spec := "bitsWhole", unfollowed := true, recurses := true, apart := false, narrowed := true }
def BitsWholeUptoSaid : Prop := bitsWholeUptoRow.holds Try.pinned (OpenSpec.upto bitsWholeSpec)

/-- 'coxswainlaw17.DemandJobs', WHERE WHAT IT READS IS OF BULK AT MOST 1048576: true; the input reads as it did. -/
def demandJobsUptoRow : OpenClaim := { program := "ytmidihnfjdgahaa", sum := "abfa1bb9b8aba0c30f32a0b7ef160c14a4e01313528bb9d8a466220ddd8b1ab2", func := "coxswain/coxswainlaw17.DemandJobs", spec := "demandJobs", unfollowed := true, recurses := true, apart := false, narrowed := true }
def DemandJobsUptoSaid : Prop := demandJobsUptoRow.holds Try.pinned (OpenSpec.upto demandJobsSpec)

/-- 'coxswainlaw17.DemandLess', WHERE WHAT IT READS IS OF BULK AT MOST 1048576: true; the input reads as it did. -/
def demandLessUptoRow : OpenClaim := { program := "ytmidihnfjdgahaa", sum := "abfa1bb9b8aba0c30f32a0b7ef160c14a4e01313528bb9d8a466220ddd8b1ab2", func := "coxswain/coxswainlaw17.DemandLess", spec := "demandLess", unfollowed := true, recurses := true, apart := false, narrowed := true }
def DemandLessUptoSaid : Prop := demandLessUptoRow.holds Try.pinned (OpenSpec.upto demandLessSpec)

/-- 'coxswainlaw17.DemandAlone', WHERE WHAT IT READS IS OF BULK AT MOST 1048576: true; the input reads as it did. -/
def demandAloneUptoRow : OpenClaim := { program := "ytmidihnfjdgahaa", sum := "abfa1bb9b8aba0c30f32a0b7ef160c14a4e01313528bb9d8a466220ddd8b1ab2", func := "coxswain/coxswainlaw17.DemandAlone", spec := "demandAlone", unfollowed := true, recurses := true, apart := false, narrowed := true }
def DemandAloneUptoSaid : Prop := demandAloneUptoRow.holds Try.pinned (OpenSpec.upto demandAloneSpec)

/-- 'coxswainlaw17.DemandGrows', WHERE WHAT IT READS IS OF BULK AT MOST 1048576: true; the input reads as it did. -/
def demandGrowsUptoRow : OpenClaim := { program := "ytmidihnfjdgahaa", sum := "abfa1bb9b8aba0c30f32a0b7ef160c14a4e01313528bb9d8a466220ddd8b1ab2", func := "coxswain/coxswainlaw17.DemandGrows", spec := "demandGrows", unfollowed := true, recurses := true, apart := false, narrowed := true }
def DemandGrowsUptoSaid : Prop := demandGrowsUptoRow.holds Try.pinned (OpenSpec.upto demandGrowsSpec)

/-- 'coxswainlaw10.RankTells', WHERE WHAT IT READS IS OF BULK AT MOST 1048576: true; the input reads as it did. -/
def rankTellsUptoRow : OpenClaim := { program := "ytmidihnfjdgahaa", sum := "abfa1bb9b8aba0c30f32a0b7ef160c14a4e01313528bb9d8a466220ddd8b1ab2", func := "coxswain/coxswainlaw10.RankTells", spec := "rankTells", unfollowed := true, recurses := true, apart := false, narrowed := true }
def RankTellsUptoSaid : Prop := rankTellsUptoRow.holds Try.pinned (OpenSpec.upto rankTellsSpec)

/-- 'coxswainlaw10.RankRises', WHERE WHAT IT READS IS OF BULK AT MOST 1048576: true; the input reads as it did. -/
def rankRisesUptoRow : OpenClaim := { program := "ytmidihnfjdgahaa", sum := "abfa1bb9b8aba0c30f32a0b7ef160c14a4e01313528bb9d8a466220ddd8b1ab2", func := "coxswain/coxswainlaw10.RankRises", spec := "rankRises", unfollowed := true, recurses := true, apart := false, narrowed := true }
def RankRisesUptoSaid : Prop := rankRisesUptoRow.holds Try.pinned (OpenSpec.upto rankRisesSpec)

/-- 'coxswainlaw10.RankNone', WHERE WHAT IT READS IS OF BULK AT MOST 1048576: true; the input reads as it did. -/
def rankNoneUptoRow : OpenClaim := { program := "ytmidihnfjdgahaa", sum := "abfa1bb9b8aba0c30f32a0b7ef160c14a4e01313528bb9d8a466220ddd8b1ab2", func := "coxswain/coxswainlaw10.RankNone", spec := "rankNone", unfollowed := true, recurses := true, apart := false, narrowed := true }
def RankNoneUptoSaid : Prop := rankNoneUptoRow.holds Try.pinned (OpenSpec.upto rankNoneSpec)

/-- 'coxswainlaw11.GraphCounts', WHERE WHAT IT READS IS OF BULK AT MOST 1048576: true; the input reads as it did. -/
def graphCountsUptoRow : OpenClaim := { program := "ytmidihnfjdgahaa", sum := "abfa1bb9b8aba0c30f32a0b7ef160c14a4e01313528bb9d8a466220ddd8b1ab2", func := "coxswain/coxswainlaw11.GraphCounts", spec := "graphCounts", unfollowed := true, recurses := true, apart := false, narrowed := true }
def GraphCountsUptoSaid : Prop := graphCountsUptoRow.holds Try.pinned (OpenSpec.upto graphCountsSpec)

/-- 'coxswainlaw11.GraphFixed', WHERE WHAT IT READS IS OF BULK AT MOST 1048576: true; the input reads as it did. -/
def graphFixedUptoRow : OpenClaim := { program := "ytmidihnfjdgahaa", sum := "abfa1bb9b8aba0c30f32a0b7ef160c14a4e01313528bb9d8a466220ddd8b1ab2", func := "coxswain/coxswainlaw11.GraphFixed", spec := "graphFixed", unfollowed := true, recurses := true, apart := false, narrowed := true }
def GraphFixedUptoSaid : Prop := graphFixedUptoRow.holds Try.pinned (OpenSpec.upto graphFixedSpec)

/-- 'coxswainlaw11.GraphMore', WHERE WHAT IT READS IS OF BULK AT MOST 1048576: true; the input reads as it did. -/
def graphMoreUptoRow : OpenClaim := { program := "ytmidihnfjdgahaa", sum := "abfa1bb9b8aba0c30f32a0b7ef160c14a4e01313528bb9d8a466220ddd8b1ab2", func := "coxswain/coxswainlaw11.GraphMore", spec := "graphMore", unfollowed := true, recurses := true, apart := false, narrowed := true }
def GraphMoreUptoSaid : Prop := graphMoreUptoRow.holds Try.pinned (OpenSpec.upto graphMoreSpec)

/-- 'coxswainlaw11.GraphTells', WHERE WHAT IT READS IS OF BULK AT MOST 1048576: true; the input reads as it did. -/
def graphTellsUptoRow : OpenClaim := { program := "ytmidihnfjdgahaa", sum := "abfa1bb9b8aba0c30f32a0b7ef160c14a4e01313528bb9d8a466220ddd8b1ab2", func := "coxswain/coxswainlaw11.GraphTells", spec := "graphTells", unfollowed := true, recurses := true, apart := false, narrowed := true }
def GraphTellsUptoSaid : Prop := graphTellsUptoRow.holds Try.pinned (OpenSpec.upto graphTellsSpec)

/-- 'coxswainlaw11.GraphAlone', WHERE WHAT IT READS IS OF BULK AT MOST 1048576: true; the input reads as it did. -/
def graphAloneUptoRow : OpenClaim := { program := "ytmidihnfjdgahaa", sum := "abfa1bb9b8aba0c30f32a0b7ef160c14a4e01313528bb9d8a466220ddd8b1ab2", func := "coxswain/coxswainlaw11.GraphAlone", spec := "graphAlone", unfollowed := true, recurses := true, apart := false, narrowed := true }
def GraphAloneUptoSaid : Prop := graphAloneUptoRow.holds Try.pinned (OpenSpec.upto graphAloneSpec)

/-- 'coxswainlaw31.IdealFirst', WHERE WHAT IT READS IS OF BULK AT MOST 1048576: true; the input reads as it did. -/
def idealFirstUptoRow : OpenClaim := { program := "ytmidihnfjdgahaa", sum := "abfa1bb9b8aba0c30f32a0b7ef160c14a4e01313528bb9d8a466220ddd8b1ab2", func := "coxswain/coxswainlaw31.IdealFirst", spec := "idealFirst", unfollowed := true, recurses := true, apart := false, narrowed := true }
def IdealFirstUptoSaid : Prop := idealFirstUptoRow.holds Try.pinned (OpenSpec.upto idealFirstSpec)

/-- 'coxswainlaw31.IdealAlone', WHERE WHAT IT READS IS OF BULK AT MOST 1048576: true; the input reads as it did. -/
def idealAloneUptoRow : OpenClaim := { program := "ytmidihnfjdgahaa", sum := "abfa1bb9b8aba0c30f32a0b7ef160c14a4e01313528bb9d8a466220ddd8b1ab2", func := "coxswain/coxswainlaw31.IdealAlone", spec := "idealAlone", unfollowed := true, recurses := true, apart := false, narrowed := true }
def IdealAloneUptoSaid : Prop := idealAloneUptoRow.holds Try.pinned (OpenSpec.upto idealAloneSpec)

end Rows
end Go.Proofs.Ytmidihnfjdgahaa
