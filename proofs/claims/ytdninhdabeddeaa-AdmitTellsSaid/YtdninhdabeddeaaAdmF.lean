/-
  PLAIN: which tasks a configuration may have; how often a line is used, as a map holds it.
-/
import Derived.Test.YtdninhdabeddeaaAdmE
import Derived.Maps.Views
namespace Go.Proofs.Ytdninhdabeddeaa
open Go.Maps

def cntLine (ts : List TK) (l : Int) : Int := (ts.countP fun x => decide (x.line = l) : Nat)
theorem cntLine_snoc (ts : List TK) (x : TK) (l : Int) : cntLine (ts ++ [x]) l = cntLine ts l + (if x.line = l then 1 else 0) := by
  unfold cntLine
  rw [List.countP_append]
  by_cases h : x.line = l <;> simp [h]
theorem cntLine_le (ts : List TK) (l : Int) : 0 ≤ cntLine ts l ∧ cntLine ts l ≤ ts.length := by
  unfold cntLine
  have := List.countP_le_length (l := ts) (p := fun x => decide (x.line = l))
  omega
/-- The map holds how often each line is used. -/
def Cnt {H : Type} (D : DataW H) (ts : List TK) : Prop := IsMap D ∧ ∀ l, D.atKey (.int .i64 l) (.lit (.int .i64 0)) = .lit (.int .i64 (cntLine ts l))
theorem Cnt.step {H : Type} {D : DataW H} {ts : List TK} (h : Cnt D ts) (x : TK) : Cnt (D.put (.int .i64 x.line) (.lit (.int .i64 (cntLine ts x.line + 1)))) (ts ++ [x]) := by
  refine ⟨h.1.put _ _, fun l => ?_⟩
  rw [cntLine_snoc]
  by_cases hl : x.line = l
  · subst hl
    rw [atKey_put_same h.1 (show WideAt.IsKeyLit (.int .i64 x.line) from trivial), if_pos rfl]
  · rw [atKey_put_other (by intro e; injection e with _ e; exact hl e.symm), h.2 l, if_neg hl, Int.add_zero]

end Go.Proofs.Ytdninhdabeddeaa
