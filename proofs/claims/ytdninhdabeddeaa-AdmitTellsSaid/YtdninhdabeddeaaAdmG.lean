/-
  WALKS of package admit: May.
-/
import Derived.Test.YtdninhdabeddeaaAdmF
import Derived.WalkKit
import Derived.Maps.OwnOps
namespace Go.Proofs.Ytdninhdabeddeaa
open Go.RowKit Go.Maps
attribute [local go_sem] depUpon Sp.ok

/-- May the first k tasks be, each line used once? -/
def mayTs (nm ng : Nat) (ts : List TK) (k : Nat) : Bool := (List.range k).all fun i => match ts[i]? with
  | some x => mayT nm ng x && !(decide (0 ≤ x.line) && decide (0 < cntLine (ts.take i) x.line))
  | none => true
theorem mayTs_succ (nm ng : Nat) (ts : List TK) (k : Nat) (hk : k < ts.length) : mayTs nm ng ts (k + 1) = (mayTs nm ng ts k && (mayT nm ng ts[k] && !(decide (0 ≤ ts[k].line) && decide (0 < cntLine (ts.take k) ts[k].line)))) := by
  unfold mayTs
  rw [List.range_succ, List.all_append]
  simp [hk]
theorem mayTs_false {nm ng : Nat} {ts : List TK} {k m : Nat} (hk : k < ts.length) (hm : k < m) (h : (mayT nm ng ts[k] && !(decide (0 ≤ ts[k].line) && decide (0 < cntLine (ts.take k) ts[k].line))) = false) : mayTs nm ng ts m = false := by
  unfold mayTs
  rw [List.all_eq_false]
  exact ⟨k, List.mem_range.2 hm, by simp [hk] at h ⊢; exact h⟩
def effB (x : EF) : Bool := inB x.lvl 0 15 && decide (x.on ≤ 40)
/-- May a configuration be? -/
def mayC (nt nb nm ng : Nat) (ts : List TK) (bs : List EF) (ms : List (Int × Int)) (gs : List Int) (fr dog : Int) : Bool :=
  decide (nt ≤ 8) && decide (nb ≤ 6) && decide (ng ≤ 4) && inB fr 8 64 && inB dog 1 1099511627776 && okM ms && mayTs nm ng ts nt && bs.all effB && !gapB gs

theorem map_keep {H : Type} {P : Program} {k : TypeId} {R : Value → Option (DataW H × List MemPlace)} {w w' : World} {b n : Nat} {D : DataW H} (h : w.ownsMap P k R b n D) (hb : Ext w w') : w'.ownsMap P k R b n D := by
  obtain ⟨es, clock, h1, h2⟩ := h
  exact ⟨es, clock, (hb.block b (Array.getElem?_eq_some_iff.1 h1).1).trans h1, h2⟩
theorem keyed_int : Keyed Try.prog 3 := int_keyed Try.underlying3
theorem zero_int (w : World) : (zeroValue 3).run Try.prog w = .ok (.int .i64 0) w := by kernel_rfl

end Go.Proofs.Ytdninhdabeddeaa
