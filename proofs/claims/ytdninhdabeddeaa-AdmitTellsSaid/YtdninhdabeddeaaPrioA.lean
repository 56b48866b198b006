/-
  WALKS of package prio and of chapter 7's reference: comparing, which may be.
-/
import Derived.Test.YtdninhdabeddeaaDep
namespace Go.Proofs.Ytdninhdabeddeaa
open Go.RowKit
attribute [local go_sem] depUpon Sp.ok

/-- Comparing numbers. -/
def icmp (x y : Int) : Int := if x < y then -1 else if y < x then 1 else 0
/-- Comparing priorities (class, level, due). -/
def pcmp (a1 a2 a3 b1 b2 b3 : Int) : Int := if a1 = b1 then (if a1 = 1 then icmp b3 a3 else icmp a2 b2) else icmp a1 b1
def pgreater (a1 a2 a3 b1 b2 b3 : Int) : Bool := if a1 = b1 then (if a1 = 1 then decide (a3 < b3) else decide (b2 < a2)) else decide (b1 < a1)
def pmay (a1 a2 a3 : Int) : Bool :=
  if a1 = 0 then decide (0 ≤ a2 ∧ a2 ≤ 15 ∧ a3 = 0) else if a1 = 1 then decide (a2 = 0 ∧ 0 ≤ a3 ∧ a3 ≤ 1099511627776) else if a1 = 2 then decide (0 ≤ a2 ∧ a2 < 64 ∧ a3 = 0) else false

set_option maxRecDepth 100000 in
set_option maxHeartbeats 400000 in
theorem cmp_nan (x : Int) (w : World) : Calls Try.prog 82 #[.int .i64 x] w fun e w' => e = .returned (.bool false) ∧ w = w' := by
  go_enter Try.func82, Try.ntmps82
  go_wp2
  go_ret
  exact ⟨ret_bool (by simp), rfl⟩

set_option maxRecDepth 100000 in
set_option maxHeartbeats 400000 in
theorem cmp_compare (x y : Int) (w : World) : Calls Try.prog 72 #[.int .i64 x, .int .i64 y] w fun e w' => e = .returned (.int .i64 (icmp x y)) ∧ w = w' := by
  by_cases h1 : x < y
  · have H := Lib.hid (by simp [icmp, h1] : icmp x y = -1)
    go_enter Try.func72, Try.ntmps72
    go_wp2_with (go_at_call 82; refine (cmp_nan _ _).mono ?_; rintro e w' ⟨rfl, rfl⟩)
    go_ret
    exact ⟨ret_int H.out.symm, rfl⟩
  · by_cases h2 : y < x
    · have H := Lib.hid (by simp [icmp, h1, h2] : icmp x y = 1)
      go_enter Try.func72, Try.ntmps72
      go_wp2_with (go_at_call 82; refine (cmp_nan _ _).mono ?_; rintro e w' ⟨rfl, rfl⟩)
      go_ret
      exact ⟨ret_int H.out.symm, rfl⟩
    · have H := Lib.hid (by simp [icmp, h1, h2] : icmp x y = 0)
      go_enter Try.func72, Try.ntmps72
      go_wp2_with (go_at_call 82; refine (cmp_nan _ _).mono ?_; rintro e w' ⟨rfl, rfl⟩)
      go_ret
      exact ⟨ret_int H.out.symm, rfl⟩

set_option maxRecDepth 100000 in
set_option maxHeartbeats 400000 in
theorem prio_high (a1 a2 a3 b1 b2 b3 : Int) (w : World) : Calls Try.prog 73 #[.agg #[.int .i64 a1, .int .i64 a2, .int .i64 a3], .agg #[.int .i64 b1, .int .i64 b2, .int .i64 b3]] w fun e w' => e = .returned (.int .i64 (icmp a2 b2)) ∧ Below w.heap.size w w' := by
  go_enter Try.func73, Try.ntmps73
  go_wp2_with (go_at_call 72; refine (cmp_compare _ _ _).mono ?_; rintro e w' ⟨rfl, rfl⟩)
  go_ret
  exact ⟨rfl, Ext.trans (Ext.alloc _ _) (Ext.alloc _ _)⟩

set_option maxRecDepth 100000 in
set_option maxHeartbeats 400000 in
theorem prio_due (a1 a2 a3 b1 b2 b3 : Int) (w : World) : Calls Try.prog 74 #[.agg #[.int .i64 a1, .int .i64 a2, .int .i64 a3], .agg #[.int .i64 b1, .int .i64 b2, .int .i64 b3]] w fun e w' => e = .returned (.int .i64 (icmp b3 a3)) ∧ Below w.heap.size w w' := by
  go_enter Try.func74, Try.ntmps74
  go_wp2_with (go_at_call 72; refine (cmp_compare _ _ _).mono ?_; rintro e w' ⟨rfl, rfl⟩)
  go_ret
  exact ⟨rfl, Ext.trans (Ext.alloc _ _) (Ext.alloc _ _)⟩

set_option maxRecDepth 100000 in
set_option maxHeartbeats 1000000 in
theorem prio_compare (a1 a2 a3 b1 b2 b3 : Int) (w : World) : Calls Try.prog 54 #[.agg #[.int .i64 a1, .int .i64 a2, .int .i64 a3], .agg #[.int .i64 b1, .int .i64 b2, .int .i64 b3]] w fun e w' => e = .returned (.int .i64 (pcmp a1 a2 a3 b1 b2 b3)) ∧ Below w.heap.size w w' := by
  by_cases h1 : a1 = b1
  · have t1 : (a1 != b1) = false := by simp [h1]
    by_cases h2 : a1 = 1
    · have H := Lib.hid (by unfold pcmp; rw [if_pos h1, if_pos h2] : pcmp a1 a2 a3 b1 b2 b3 = icmp b3 a3)
      have t2 : (a1 == 1) = true := by simp [h2]
      clear h1 h2
      go_enter Try.func54, Try.ntmps54
      go_wp2_with (go_at_call 74; refine (prio_due _ _ _ _ _ _ _).mono ?_; rintro e w1 ⟨rfl, b1⟩)
      go_ret
      exact ⟨ret_int H.out.symm, Ext.trans (Ext.trans (Ext.alloc _ _) (Ext.alloc _ _)) b1⟩
    · have H := Lib.hid (by unfold pcmp; rw [if_pos h1, if_neg h2] : pcmp a1 a2 a3 b1 b2 b3 = icmp a2 b2)
      have t2 : (a1 == 1) = false := by simp [h2]
      clear h1 h2
      go_enter Try.func54, Try.ntmps54
      go_wp2_with (go_at_call 73; refine (prio_high _ _ _ _ _ _ _).mono ?_; rintro e w1 ⟨rfl, b1⟩)
      go_ret
      exact ⟨ret_int H.out.symm, Ext.trans (Ext.trans (Ext.alloc _ _) (Ext.alloc _ _)) b1⟩
  · have t1 : (a1 != b1) = true := by simp [h1]
    have H := Lib.hid (by unfold pcmp; rw [if_neg h1] : pcmp a1 a2 a3 b1 b2 b3 = icmp a1 b1)
    clear h1
    go_enter Try.func54, Try.ntmps54
    go_wp2_with (go_at_call 72; refine (cmp_compare _ _ _).mono ?_; rintro e w' ⟨rfl, rfl⟩)
    go_ret
    exact ⟨ret_int H.out.symm, Ext.trans (Ext.alloc _ _) (Ext.alloc _ _)⟩

theorem pcmp_greater (a1 a2 a3 b1 b2 b3 : Int) : pcmp a1 a2 a3 b1 b2 b3 = if pgreater a1 a2 a3 b1 b2 b3 = true then 1 else if pgreater b1 b2 b3 a1 a2 a3 = true then -1 else 0 := by
  unfold pcmp pgreater icmp
  by_cases h1 : a1 = b1
  · subst h1
    by_cases h2 : a1 = 1
    · simp [h2]; split <;> split <;> (try split) <;> omega
    · simp [h2]; split <;> split <;> (try split) <;> omega
  · have h1' : b1 ≠ a1 := fun h => h1 h.symm
    simp [h1, h1']; split <;> split <;> (try split) <;> omega

end Go.Proofs.Ytdninhdabeddeaa
