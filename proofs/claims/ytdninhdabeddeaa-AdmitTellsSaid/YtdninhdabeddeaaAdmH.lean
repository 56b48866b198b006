/-
  WALKS of package admit: May.
-/
import Derived.Test.YtdninhdabeddeaaAdmG
namespace Go.Proofs.Ytdninhdabeddeaa
open Go.RowKit Go.Maps
attribute [local go_sem] depUpon Sp.ok

set_option maxRecDepth 100000 in
set_option maxHeartbeats 2000000 in
theorem a_may_size (A : Option Addr) (nt ct : Nat) (ts : List TK) (B : Option Addr) (nb cb : Nat) (bs : List EF) (M : Option Addr) (nm cm : Nat) (ms : List (Int × Int)) (G : Option Addr) (ng cg : Nat) (gs : List Int) (fr dog : Int) (w : World) (hbad : ¬ (nt ≤ 8 ∧ nb ≤ 6 ∧ ng ≤ 4 ∧ inB fr 8 64 = true ∧ inB dog 1 1099511627776 = true)) :
    Calls Try.prog 10 #[.agg #[.slice A nt ct, .slice B nb cb, .slice M nm cm, .slice G ng cg, .int .i64 fr, .int .i64 dog]] w fun e w' => e = .returned (.bool (mayC nt nb nm ng ts bs ms gs fr dog)) ∧ Below w.heap.size w w' := by
  have hb0 : Ext w (w.alloc (.cells #[.slice A nt ct, .slice B nb cb, .slice M nm cm, .slice G ng cg, .int .i64 fr, .int .i64 dog] 27)) := Ext.alloc _ _
  have c1 := fun w => a_within fr 8 64 w
  have c2 := fun w => a_within dog 1 1099511627776 w
  rw [show decide (8 ≤ fr ∧ fr ≤ 64) = inB fr 8 64 from rfl] at c1
  rw [show decide (1 ≤ dog ∧ dog ≤ 1099511627776) = inB dog 1 1099511627776 from rfl] at c2
  have HQ : Hid (mayC nt nb nm ng ts bs ms gs fr dog = false) := Lib.hid (by
    unfold mayC
    clear c1 c2 hb0
    generalize okM ms = z1
    generalize mayTs nm ng ts nt = z2
    generalize bs.all effB = z3
    generalize gapB gs = z4
    by_cases a : nt ≤ 8 <;> by_cases b : nb ≤ 6 <;> by_cases c : ng ≤ 4 <;> cases d : inB fr 8 64 <;> cases e : inB dog 1 1099511627776 <;> simp_all <;> intros <;> omega)
  generalize inB fr 8 64 = q1 at *
  generalize inB dog 1 1099511627776 = q2 at *
  have C1 := Lib.hid c1
  have C2 := Lib.hid c2
  clear c1 c2
  by_cases a : (8 : Int) < (nt : Int)
  · clear hbad
    go_enter Try.func10, Try.ntmps10
    go_wp2
    go_ret
    exact ⟨by rw [HQ.out]; rfl, hb0⟩
  by_cases b : (6 : Int) < (nb : Int)
  · clear hbad
    go_enter Try.func10, Try.ntmps10
    go_wp2
    go_ret
    exact ⟨by rw [HQ.out]; rfl, hb0⟩
  by_cases c : (4 : Int) < (ng : Int)
  · clear hbad
    go_enter Try.func10, Try.ntmps10
    go_wp2
    go_ret
    exact ⟨by rw [HQ.out]; rfl, hb0⟩
  cases q1
  · clear hbad
    go_enter Try.func10, Try.ntmps10
    go_wp2_with ((with_reducible go_at_call 25); (with_reducible refine (C1.out _).mono ?_); rintro e w' ⟨rfl, rfl⟩)
    go_ret
    exact ⟨by rw [HQ.out]; rfl, hb0⟩
  cases q2
  · clear hbad
    go_enter Try.func10, Try.ntmps10
    go_wp2_with (first | ((with_reducible go_at_call 25); (with_reducible refine (C1.out _).mono ?_); rintro e w' ⟨rfl, rfl⟩) | ((with_reducible go_at_call 25); (with_reducible refine (C2.out _).mono ?_); rintro e w' ⟨rfl, rfl⟩))
    go_ret
    exact ⟨by rw [HQ.out]; rfl, hb0⟩
  exact absurd ⟨by omega, by omega, by omega, rfl, rfl⟩ hbad

end Go.Proofs.Ytdninhdabeddeaa
