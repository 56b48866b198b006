/-
  WALKS of the functions of package num: what each answers, for every integer.
-/
import Derived.Test.YtfdpipjkckbgdaaBase
namespace Go.Proofs.Ytfdpipjkckbgdaa
open Go.RowKit

/-- A number between 0 and 2^40. -/
def clip (x : Int) : Int := min (max x 0) 1099511627776
theorem clip_lo (x : Int) : 0 ≤ clip x := by unfold clip; omega
theorem clip_hi (x : Int) : clip x ≤ 1099511627776 := by unfold clip; omega
theorem clip_of (x : Int) (h0 : 0 ≤ x) (h1 : x ≤ 1099511627776) : clip x = x := by unfold clip; omega
theorem clip_mono {x y : Int} (h : x ≤ y) : clip x ≤ clip y := by unfold clip; omega
theorem clip_big (x : Int) (h1 : 1099511627776 ≤ x) : clip x = 1099511627776 := by unfold clip; omega
theorem clip_neg (x : Int) (h1 : x ≤ 0) : clip x = 0 := by unfold clip; omega

/-- The sum of two. -/
def nadd (a b : Int) : Int := clip (clip a + clip b)
/-- The product of two. -/
def nmul (a b : Int) : Int := clip (clip a * clip b)
/-- How often b goes into a, down. -/
def ndown (a b : Int) : Int := clip a / max (clip b) 1
/-- How often b goes into a, up. -/
def nup (a b : Int) : Int := (clip a + max (clip b) 1 - 1) / max (clip b) 1
/-- The sum of a list. -/
def nsum (l : List Int) : Int := l.foldl (fun s x => clip (s + clip x)) 0

theorem nmul_big (x y : Int) (h0 : clip x ≠ 0) (h : 1099511627776 / clip x < clip y) : nmul x y = 1099511627776 := by
  have h1 := clip_lo x
  have h2 : 0 < clip x := by omega
  rw [Int.ediv_lt_iff_lt_mul h2] at h
  unfold nmul
  exact clip_big _ (by rw [Int.mul_comm]; omega)
theorem prod_small (a b : Int) (h0 : 0 ≤ a) (h1 : 0 ≤ b) (h : a = 0 ∨ b ≤ 1099511627776 / a) : 0 ≤ a * b ∧ a * b ≤ 1099511627776 := by
  refine ⟨Int.mul_nonneg h0 h1, ?_⟩
  rcases h with rfl | h
  · simp
  · rcases Int.lt_or_eq_of_le h0 with h2 | rfl
    · rw [Int.le_ediv_iff_mul_le h2, Int.mul_comm] at h; exact h
    · simp
theorem nmul_small (x y : Int) (h : clip x = 0 ∨ clip y ≤ 1099511627776 / clip x) : nmul x y = clip x * clip y := by
  have := prod_small (clip x) (clip y) (clip_lo x) (clip_lo y) h
  exact clip_of _ this.1 this.2
theorem nup_lo (a b : Int) : 0 ≤ nup a b := by
  unfold nup
  have h1 := clip_lo a
  exact Int.ediv_nonneg (by omega) (by omega)
theorem up_hi (a b : Int) (h0 : 0 ≤ a) (h1 : a ≤ 1099511627776) (hb : 1 ≤ b) : (a + b - 1) / b ≤ 1099511627776 := by
  have : (a + b - 1) / b < 1099511627776 + 1 := by
    rw [Int.ediv_lt_iff_lt_mul (by omega)]
    have : 1099511627776 * (b - 1) ≥ 0 := Int.mul_nonneg (by omega) (by omega)
    have e : (1099511627776 + 1) * b = 1099511627776 * (b - 1) + 1099511627776 + b := by
      rw [Int.add_mul, Int.mul_sub]; omega
    omega
  omega
theorem nup_hi (a b : Int) : nup a b ≤ 1099511627776 := up_hi _ _ (clip_lo a) (clip_hi a) (by omega)

set_option maxRecDepth 100000 in
set_option maxHeartbeats 400000 in
theorem num_clip (x : Int) (w : World) :
    Calls Try.prog 48 #[.int .i64 x] w fun e w' => e = .returned (.int .i64 (clip x)) ∧ w = w' := by
  go_enter Try.func48, Try.ntmps48
  go_wp2
  all_goals (go_ret; exact ⟨ret_int (by unfold clip; omega), rfl⟩)

theorem nsum_snoc (l : List Int) (x : Int) : nsum (l ++ [x]) = clip (nsum l + clip x) := by simp [nsum]
theorem nsum_lo (l : List Int) : 0 ≤ nsum l := by
  rcases l.eq_nil_or_concat with rfl | ⟨l', x, rfl⟩
  · simp [nsum]
  · rw [List.concat_eq_append, nsum_snoc]; exact clip_lo _
theorem nsum_hi (l : List Int) : nsum l ≤ 1099511627776 := by
  rcases l.eq_nil_or_concat with rfl | ⟨l', x, rfl⟩
  · simp [nsum]
  · rw [List.concat_eq_append, nsum_snoc]; exact clip_hi _

set_option maxRecDepth 100000 in
set_option maxHeartbeats 400000 in
theorem num_add (A : Option Addr) (n c : Nat) (zs : List Int) (w : World) (hn : n ≤ 9223372036854775807) (hr : Rd w A (ints zs)) (hl : zs.length = n) :
    Calls Try.prog 34 #[.slice A n c] w fun e w' => e = .returned (.int .i64 (nsum zs)) ∧ w = w' := by
  subst hl
  go_enter Try.func34, Try.ntmps34
  go_wp2
  go_loop [3, 8] (fun s i => ∃ k : Nat, k ≤ zs.length ∧ i = .int .i64 k ∧ s = .int .i64 (nsum (zs.take k))) (fun _ i => zs.length - (intOf i).toNat)
  case atStart => exact ⟨0, Nat.zero_le _, rfl, rfl⟩
  case round =>
    obtain ⟨k, hk, rfl, rfl⟩ := hrel
    have b0 := nsum_lo (zs.take k)
    have b1 := nsum_hi (zs.take k)
    by_cases hlt : k < zs.length
    · obtain ⟨b, off, rfl, hc⟩ := hr.int hlt
      have c0 := clip_lo zs[k]
      have c1 := clip_hi zs[k]
      have HS := Lib.hid (nsum_snoc (zs.take k) zs[k])
      go_wp2_with (go_at_call 48; refine (num_clip _ _).mono ?_; rintro e w' ⟨rfl, rfl⟩)
      go_round
      case rel => exact ⟨k + 1, by omega, by go_num, by rw [take_succ' _ _ hlt, HS.out]⟩
      case measure => simp [intOf]; omega
    · go_wp2
      go_ret
      exact ⟨ret_int (by rw [List.take_of_length_le (by omega)]), rfl⟩

end Go.Proofs.Ytfdpipjkckbgdaa
