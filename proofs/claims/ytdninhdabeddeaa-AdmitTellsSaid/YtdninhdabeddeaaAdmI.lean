/-
  WALKS of package admit: May, where the sizes are well and the mutexes are not.
-/
import Derived.Test.YtdninhdabeddeaaAdmH
namespace Go.Proofs.Ytdninhdabeddeaa
open Go.RowKit Go.Maps
attribute [local go_sem] depUpon Sp.ok

set_option maxRecDepth 100000 in
set_option maxHeartbeats 2000000 in
theorem a_may_mtx (A : Option Addr) (nt ct : Nat) (ts : List TK) (B : Option Addr) (nb cb : Nat) (bs : List EF) (M : Option Addr) (nm cm : Nat) (ms : List (Int × Int)) (G : Option Addr) (ng cg : Nat) (gs : List Int) (fr dog : Int) (w : World) (h : ConfArg w A nt ts B nb bs M nm ms G ng gs fr dog) (h12 : nm ≤ 65536) (hs : nt ≤ 8 ∧ nb ≤ 6 ∧ ng ≤ 4 ∧ inB fr 8 64 = true ∧ inB dog 1 1099511627776 = true) (hok : okM ms = false) :
    Calls Try.prog 10 #[.agg #[.slice A nt ct, .slice B nb cb, .slice M nm cm, .slice G ng cg, .int .i64 fr, .int .i64 dog]] w fun e w' => e = .returned (.bool (mayC nt nb nm ng ts bs ms gs fr dog)) ∧ Below w.heap.size w w' := by
  have hb0 : Ext w (w.alloc (.cells #[.slice A nt ct, .slice B nb cb, .slice M nm cm, .slice G ng cg, .int .i64 fr, .int .i64 dog] 27)) := Ext.alloc _ _
  obtain ⟨a, b, c, d, e⟩ := hs
  have HQ : Hid (mayC nt nb nm ng ts bs ms gs fr dog = false) := Lib.hid (by
    unfold mayC
    rw [hok]
    simp)
  have c1 := fun w => a_within fr 8 64 w
  have c2 := fun w => a_within dog 1 1099511627776 w
  rw [show decide (8 ≤ fr ∧ fr ≤ 64) = true from d] at c1
  rw [show decide (1 ≤ dog ∧ dog ≤ 1099511627776) = true from e] at c2
  have C1 := Lib.hid c1
  have C2 := Lib.hid c2
  have HN := Lib.hid (t_new_no M nm cm ms _ h12 (h.mtx.rd.keep hb0) h.mtx.len hok)
  have a' : ¬ (8 : Int) < (nt : Int) := by omega
  have b' : ¬ (6 : Int) < (nb : Int) := by omega
  have c' : ¬ (4 : Int) < (ng : Int) := by omega
  clear c1 c2 h hok d e a b c
  go_enter Try.func10, Try.ntmps10
  go_wp2_with (first | ((with_reducible go_at_call 25); (with_reducible refine (C1.out _).mono ?_); rintro e w' ⟨rfl, rfl⟩) | ((with_reducible go_at_call 25); (with_reducible refine (C2.out _).mono ?_); rintro e w' ⟨rfl, rfl⟩) | ((with_reducible go_at_call 26); (with_reducible refine (HN.out).mono ?_); rintro e w1 ⟨rfl, b1⟩))
  go_ret
  exact ⟨by rw [HQ.out]; rfl, Ext.trans hb0 b1⟩

end Go.Proofs.Ytdninhdabeddeaa
