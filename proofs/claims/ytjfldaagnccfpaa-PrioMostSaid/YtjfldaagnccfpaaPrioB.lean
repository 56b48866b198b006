/-
  WALKS of package prio and of chapter 7's reference: May.
-/
import Derived.Test.YtjfldaagnccfpaaPrioA
namespace Go.Proofs.Ytjfldaagnccfpaa
open Go.RowKit
attribute [local go_sem] depUpon Sp.ok

theorem may_of {a1 a2 a3 : Int} {p : Prop} [Decidable p] (h : pmay a1 a2 a3 = decide p) : ∀ b : Bool, (b = true ↔ p) → Ending.returned (.bool b) = .returned (.bool (pmay a1 a2 a3)) := by
  intro b hb
  rw [h]
  refine ret_bool ?_
  rw [Bool.eq_iff_iff, hb]; simp

set_option maxRecDepth 100000 in
set_option maxHeartbeats 1000000 in
theorem prio_may (a1 a2 a3 : Int) (w : World) : Calls Try.prog 8 #[.agg #[.int .i64 a1, .int .i64 a2, .int .i64 a3]] w fun e w' => e = .returned (.bool (pmay a1 a2 a3)) ∧ Below w.heap.size w w' := by
  by_cases h0 : a1 = 0
  · have H := Lib.hid (may_of (by unfold pmay; rw [if_pos h0] : pmay a1 a2 a3 = decide (0 ≤ a2 ∧ a2 ≤ 15 ∧ a3 = 0)))
    have t0 : (a1 == 0) = true := by simp [h0]
    clear h0
    go_enter Try.func8, Try.ntmps8
    go_wp2
    all_goals (go_ret; exact ⟨H.out _ (by simp; try omega), Ext.alloc _ _⟩)
  · have t0 : (a1 == 0) = false := by simp [h0]
    by_cases h1 : a1 = 1
    · have t1 : (a1 == 1) = true := by simp [h1]
      by_cases hz : a2 = 0
      · subst hz
        have H := Lib.hid (may_of (by unfold pmay; rw [if_neg h0, if_pos h1] : pmay a1 0 a3 = decide ((0 : Int) = 0 ∧ 0 ≤ a3 ∧ a3 ≤ 1099511627776)))
        clear h0 h1
        go_enter Try.func8, Try.ntmps8
        go_wp2
        all_goals (go_ret; exact ⟨H.out _ (by simp; try omega), Ext.alloc _ _⟩)
      · have H := Lib.hid (may_of (by unfold pmay; rw [if_neg h0, if_pos h1] : pmay a1 a2 a3 = decide (a2 = 0 ∧ 0 ≤ a3 ∧ a3 ≤ 1099511627776)))
        have t2 : (a2 == 0) = false := by simp [hz]
        have HZ := Lib.hid hz
        clear h0 h1 hz
        go_enter Try.func8, Try.ntmps8
        go_wp2
        all_goals (go_ret; exact ⟨H.out _ (by simp; try (have := HZ.out; omega)), Ext.alloc _ _⟩)
    · have t1 : (a1 == 1) = false := by simp [h1]
      by_cases h2 : a1 = 2
      · have H := Lib.hid (may_of (by unfold pmay; rw [if_neg h0, if_neg h1, if_pos h2] : pmay a1 a2 a3 = decide (0 ≤ a2 ∧ a2 < 64 ∧ a3 = 0)))
        have t2 : (a1 == 2) = true := by simp [h2]
        clear h0 h1 h2
        go_enter Try.func8, Try.ntmps8
        go_wp2
        all_goals (go_ret; exact ⟨H.out _ (by simp; try omega), Ext.alloc _ _⟩)
      · have t2 : (a1 == 2) = false := by simp [h2]
        have H := Lib.hid (by unfold pmay; rw [if_neg h0, if_neg h1, if_neg h2] : pmay a1 a2 a3 = false)
        clear h0 h1 h2
        go_enter Try.func8, Try.ntmps8
        go_wp2
        all_goals (go_ret; refine ⟨ret_bool ?_, Ext.alloc _ _⟩; rw [H.out])

set_option maxRecDepth 100000 in
set_option maxHeartbeats 1000000 in
theorem ref_may (a1 a2 a3 : Int) (w : World) : Calls Try.prog 9 #[.agg #[.int .i64 a1, .int .i64 a2, .int .i64 a3]] w fun e w' => e = .returned (.bool (pmay a1 a2 a3)) ∧ Below w.heap.size w w' := by
  by_cases h0 : a1 = 0
  · have H := Lib.hid (may_of (by unfold pmay; rw [if_pos h0] : pmay a1 a2 a3 = decide (0 ≤ a2 ∧ a2 ≤ 15 ∧ a3 = 0)))
    have t0 : (a1 == 0) = true := by simp [h0]
    clear h0
    go_enter Try.func9, Try.ntmps9
    go_wp2
    all_goals (go_ret; exact ⟨H.out _ (by simp; try omega), Ext.alloc _ _⟩)
  · have t0 : (a1 == 0) = false := by simp [h0]
    by_cases h1 : a1 = 1
    · have t1 : (a1 == 1) = true := by simp [h1]
      by_cases hz : a2 = 0
      · subst hz
        have H := Lib.hid (may_of (by unfold pmay; rw [if_neg h0, if_pos h1] : pmay a1 0 a3 = decide ((0 : Int) = 0 ∧ 0 ≤ a3 ∧ a3 ≤ 1099511627776)))
        clear h0 h1
        go_enter Try.func9, Try.ntmps9
        go_wp2
        all_goals (go_ret; exact ⟨H.out _ (by simp; try omega), Ext.alloc _ _⟩)
      · have H := Lib.hid (may_of (by unfold pmay; rw [if_neg h0, if_pos h1] : pmay a1 a2 a3 = decide (a2 = 0 ∧ 0 ≤ a3 ∧ a3 ≤ 1099511627776)))
        have t2 : (a2 == 0) = false := by simp [hz]
        have HZ := Lib.hid hz
        clear h0 h1 hz
        go_enter Try.func9, Try.ntmps9
        go_wp2
        all_goals (go_ret; exact ⟨H.out _ (by simp; try (have := HZ.out; omega)), Ext.alloc _ _⟩)
    · have t1 : (a1 == 1) = false := by simp [h1]
      by_cases h2 : a1 = 2
      · have H := Lib.hid (may_of (by unfold pmay; rw [if_neg h0, if_neg h1, if_pos h2] : pmay a1 a2 a3 = decide (0 ≤ a2 ∧ a2 < 64 ∧ a3 = 0)))
        have t2 : (a1 == 2) = true := by simp [h2]
        clear h0 h1 h2
        go_enter Try.func9, Try.ntmps9
        go_wp2
        all_goals (go_ret; exact ⟨H.out _ (by simp; try omega), Ext.alloc _ _⟩)
      · have t2 : (a1 == 2) = false := by simp [h2]
        have H := Lib.hid (by unfold pmay; rw [if_neg h0, if_neg h1, if_neg h2] : pmay a1 a2 a3 = false)
        clear h0 h1 h2
        go_enter Try.func9, Try.ntmps9
        go_wp2
        all_goals (go_ret; refine ⟨ret_bool ?_, Ext.alloc _ _⟩; rw [H.out])

end Go.Proofs.Ytjfldaagnccfpaa
