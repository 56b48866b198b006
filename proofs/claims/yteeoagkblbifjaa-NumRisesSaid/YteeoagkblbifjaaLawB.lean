/-
  WALKS of the statements on num, chapter 1: NumRises.
-/
import Derived.Test.YteeoagkblbifjaaLawA
namespace Go.Proofs.Yteeoagkblbifjaa
open Go.RowKit

set_option maxHeartbeats 1000000 in
theorem law_rises (a b c d : Int) (w : World) (_ : I64 a) (_ : I64 b) (_ : I64 c) (_ : I64 d) :
    Calls Try.prog 5 #[.int .i64 a, .int .i64 b, .int .i64 c, .int .i64 d] w fun e w' => e = .returned (.bool true) ∧ Below w.heap.size w w' := by
  by_cases h1 : b < a
  · go_enter Try.func5, Try.ntmps5
    go_wp2_with (go_at_call 8; refine (awake_any _).mono ?_; rintro e w' ⟨rfl, hb⟩)
    go_ret
    exact ⟨rfl, hb⟩
  · by_cases h2 : d < c
    · go_enter Try.func5, Try.ntmps5
      go_wp2_with (go_at_call 8; refine (awake_any _).mono ?_; rintro e w' ⟨rfl, hb⟩)
      go_ret
      exact ⟨rfl, hb⟩
    · have k1 : a ≤ b := by omega
      have k2 : c ≤ d := by omega
      have l1 : nsum [a, c] ≤ nsum [b, d] := by rw [nsum2, nsum2]; exact nadd_mono k1 k2
      have l2 := nmul_mono k1 k2
      have l3 := nup_mono d k1
      have l4 := nup_anti a k2
      have l5 := ndown_anti a k2
      have l6 := clip_mono k1
      have ra : Rd (w.alloc (.cells #[.int .i64 a, .int .i64 c] 3)) (some ⟨w.heap.size, 0, none⟩) (ints [a, c]) := (Own.new w 3 (ints [a, c])).rd0
      have rb : Rd ((w.alloc (.cells #[.int .i64 a, .int .i64 c] 3)).alloc (.cells #[.int .i64 b, .int .i64 d] 3)) (some ⟨w.heap.size + 1, 0, none⟩) (ints [b, d]) := by
        have := (Own.new (w.alloc (.cells #[.int .i64 a, .int .i64 c] 3)) 3 (ints [b, d])).rd0
        rw [World.size_alloc] at this; exact this
      clear k1 k2
      go_enter Try.func5, Try.ntmps5
      go_wp2_with (first
        | (go_at_call 10; refine (num_clip _ _).mono ?_; rintro e w' ⟨rfl, rfl⟩)
        | (go_at_call 17; refine (num_up _ _ _).mono ?_; rintro e w' ⟨rfl, rfl⟩)
        | (go_at_call 19; refine (num_down _ _ _).mono ?_; rintro e w' ⟨rfl, rfl⟩)
        | (go_at_call 15; refine (num_mul _ _ _).mono ?_; rintro e w' ⟨rfl, rfl⟩)
        | (go_at_call 12; ((with_reducible refine (num_add _ 2 _ [a, c] _ (by omega) ra rfl).mono ?_); rintro e w' ⟨rfl, rfl⟩))
        | (go_at_call 12; ((with_reducible refine (num_add _ 2 _ [b, d] _ (by omega) rb rfl).mono ?_); rintro e w' ⟨rfl, rfl⟩))
        | (go_at_call 8; refine (awake_any _).mono ?_; rintro e w2 ⟨rfl, b2⟩))
      go_ret
      exact ⟨rfl, (((Below.refl _ _).alloc (Nat.le_refl _) _).alloc (by simp) _).trans (b2.mono (by simp; omega))⟩

end Go.Proofs.Yteeoagkblbifjaa
