/-
  WALKS of the statements on num, chapter 1.
-/
import Derived.Test.YteeoagkblbifjaaRefA
import Derived.Test.YteeoagkblbifjaaLend
namespace Go.Proofs.Yteeoagkblbifjaa
open Go.RowKit

set_option maxHeartbeats 400000 in
theorem awake_any (w : World) :
    Calls Try.prog 8 #[] w fun e w' => e = .returned (.bool true) ∧ Below w.heap.size w w' := by
  have h1 : nup 7 3 = 3 := by decide
  have h2 : ndown 7 3 = 2 := by decide
  have h3 : clip (-4) = 0 := by decide
  have h4 : nmul 1073741824 1073741824 = 1099511627776 := by decide
  have h5 : nsum [5, 6] = 11 := by decide
  have r : Rd (w.alloc (.cells #[.int .i64 5, .int .i64 6] 3)) (some ⟨w.heap.size, 0, none⟩) (ints [5, 6]) := (Own.new w 3 (ints [5, 6])).rd0
  go_enter Try.func8, Try.ntmps8
  go_wp2_with (first
    | (go_at_call 10; refine (num_clip _ _).mono ?_; rintro e w' ⟨rfl, rfl⟩)
    | (go_at_call 17; refine (num_up _ _ _).mono ?_; rintro e w' ⟨rfl, rfl⟩)
    | (go_at_call 19; refine (num_down _ _ _).mono ?_; rintro e w' ⟨rfl, rfl⟩)
    | (go_at_call 15; refine (num_mul _ _ _).mono ?_; rintro e w' ⟨rfl, rfl⟩)
    | (go_at_call 12; refine (num_add _ 2 _ [5, 6] _ (by omega) r rfl).mono ?_; rintro e w' ⟨rfl, rfl⟩))
  go_ret
  exact ⟨rfl, (Below.refl _ _).alloc (Nat.le_refl _) _⟩

set_option maxHeartbeats 400000 in
theorem law_sums (x : Int) (A : Option Addr) (n c : Nat) (zs : List Int) (w : World) (_ : I64 x) (gz : IntsArg w A n zs) :
    Calls Try.prog 3 #[.int .i64 x, .slice A n c] w fun e w' => e = .returned (.bool true) ∧ Below w.heap.size w w' := by
  obtain ⟨hl, hn, hr, _⟩ := gz
  by_cases h50 : 50 < n
  · go_enter Try.func3, Try.ntmps3
    go_wp2_with (go_at_call 8; refine (awake_any _).mono ?_; rintro e w' ⟨rfl, hb⟩)
    go_ret
    exact ⟨rfl, hb⟩
  · go_enter Try.func3, Try.ntmps3
    go_wp2_with (first
      | (go_at_call 9; refine (lend_ints _ _ _ zs _ (by omega) hr hl).mono ?_; rintro e w1 ⟨g, rfl, o1, hg, b1⟩)
      | (go_at_call 10; refine (num_clip _ _).mono ?_; rintro e w' ⟨rfl, rfl⟩)
      | (go_at_call 11; refine (ref_clip _ _).mono ?_; rintro e w' ⟨rfl, rfl⟩)
      | (go_at_call 12; refine (num_add _ _ _ zs _ (by omega) o1.rd0.pre hl).mono ?_; rintro e w' ⟨rfl, rfl⟩)
      | (go_at_call 13; refine (ref_sum _ _ _ zs _ (by omega) (hr.keep b1) hl).mono ?_; rintro e w' ⟨rfl, rfl⟩)
      | (go_at_call 14; refine (kept_ints _ _ _ _ _ zs zs _ (by omega) (by omega) o1 (hr.keep b1) hl hl).mono ?_; rintro e w' ⟨rfl, q, rfl⟩)
      | (go_at_call 8; refine (awake_any _).mono ?_; rintro e w2 ⟨rfl, b2⟩))
    go_ret
    exact ⟨rfl, (below_drewN b1 q).trans (b2.mono b1.size)⟩

set_option maxHeartbeats 400000 in
theorem law_times (x y : Int) (w : World) (_ : I64 x) (_ : I64 y) :
    Calls Try.prog 4 #[.int .i64 x, .int .i64 y] w fun e w' => e = .returned (.bool true) ∧ Below w.heap.size w w' := by
  go_enter Try.func4, Try.ntmps4
  go_wp2_with (first
    | (go_at_call 15; refine (num_mul _ _ _).mono ?_; rintro e w' ⟨rfl, rfl⟩)
    | (go_at_call 16; refine (ref_mul _ _ _).mono ?_; rintro e w' ⟨rfl, rfl⟩)
    | (go_at_call 17; refine (num_up _ _ _).mono ?_; rintro e w' ⟨rfl, rfl⟩)
    | (go_at_call 18; refine (ref_up _ _ _).mono ?_; rintro e w' ⟨rfl, rfl⟩)
    | (go_at_call 19; refine (num_down _ _ _).mono ?_; rintro e w' ⟨rfl, rfl⟩)
    | (go_at_call 20; refine (ref_down _ _ _).mono ?_; rintro e w' ⟨rfl, rfl⟩)
    | (go_at_call 8; refine (awake_any _).mono ?_; rintro e w2 ⟨rfl, b2⟩))
  go_ret
  exact ⟨rfl, b2⟩

theorem nadd_mono {a b c d : Int} (h : a ≤ b) (k : c ≤ d) : nadd a c ≤ nadd b d := by unfold nadd clip; omega
theorem nsum2 (a b : Int) : nsum [a, b] = nadd a b := by simp [nsum, nadd]; unfold clip; omega
theorem nmul_mono {a b c d : Int} (h : a ≤ b) (k : c ≤ d) : nmul a c ≤ nmul b d := by
  unfold nmul
  exact clip_mono (Int.mul_le_mul (clip_mono h) (clip_mono k) (clip_lo _) (clip_lo _))
theorem ndown_mono {a b : Int} (c : Int) (h : a ≤ b) : ndown a c ≤ ndown b c := by
  unfold ndown
  exact Int.ediv_le_ediv (by omega) (clip_mono h)
theorem ediv_anti {a b c : Int} (h : 0 ≤ a) (hb : 1 ≤ b) (k : b ≤ c) : a / c ≤ a / b := by
  rw [Int.le_ediv_iff_mul_le (by omega)]
  have h1 : a / c * c ≤ a := Int.ediv_mul_le _ (by omega)
  have h2 : 0 ≤ a / c := Int.ediv_nonneg h (by omega)
  have h3 : a / c * b ≤ a / c * c := Int.mul_le_mul_of_nonneg_left k h2
  omega
theorem ndown_anti (a : Int) {c d : Int} (h : c ≤ d) : ndown a d ≤ ndown a c := by
  have := clip_mono h
  unfold ndown
  exact ediv_anti (clip_lo _) (by omega) (by omega)
theorem nup_mono {a b : Int} (c : Int) (h : a ≤ b) : nup a c ≤ nup b c := by
  have := clip_mono h
  unfold nup
  exact Int.ediv_le_ediv (by omega) (by omega)
theorem up_le (a b q : Int) (hb : 1 ≤ b) (h : a ≤ q * b) : (a + b - 1) / b ≤ q := by
  have : (a + b - 1) / b < q + 1 := by
    rw [Int.ediv_lt_iff_lt_mul (by omega), Int.add_mul]; omega
  omega
theorem up_ge (a b : Int) (hb : 1 ≤ b) : a ≤ (a + b - 1) / b * b := by
  have h1 := Int.emod_add_mul_ediv (a + b - 1) b
  have h3 := Int.emod_lt_of_pos (a + b - 1) (b := b) (by omega)
  rw [Int.mul_comm]; omega
theorem nup_anti (a : Int) {c d : Int} (h : c ≤ d) : nup a d ≤ nup a c := by
  have h1 := clip_mono h
  unfold nup
  refine up_le _ _ _ (by omega) ?_
  have h2 := up_ge (clip a) (max (clip c) 1) (by omega)
  have h3 : 0 ≤ (clip a + max (clip c) 1 - 1) / max (clip c) 1 := nup_lo a c
  have h4 := Int.mul_le_mul_of_nonneg_left (a := max (clip c) 1) (b := max (clip d) 1) (by omega) h3
  omega

end Go.Proofs.Yteeoagkblbifjaa
