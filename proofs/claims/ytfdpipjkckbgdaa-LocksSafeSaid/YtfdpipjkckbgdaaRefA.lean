/-
  WALKS of the reference of chapter 1: what each answers, for every integer.
-/
import Derived.Test.YtfdpipjkckbgdaaNumA
namespace Go.Proofs.Ytfdpipjkckbgdaa
open Go.RowKit

theorem nadd_nsum (a b : Int) : nadd a b = nsum [a, b] := by simp [nsum, nadd]; unfold clip; omega
theorem nadd_nsum3 (a b c : Int) : nadd (nadd a b) c = nsum [a, b, c] := by simp [nsum, nadd]; unfold clip; omega

theorem nadd_sum (s x : Int) (h0 : 0 ≤ s) (h1 : s ≤ 1099511627776) : nadd s x = clip (s + clip x) := by unfold nadd; rw [clip_of s h0 h1]

/-- After the bits above i of b. -/
def mulTo (a b : Int) (i : Nat) : Int := clip (a * (b / 2 ^ i))
theorem mulTo_lo (a b : Int) (i : Nat) : 0 ≤ mulTo a b i := clip_lo _
theorem mulTo_hi (a b : Int) (i : Nat) : mulTo a b i ≤ 1099511627776 := clip_hi _
theorem clip_twice (x : Int) (h : 0 ≤ x) : clip (2 * clip x) = clip (2 * x) := by unfold clip; omega
theorem clip_more (x a : Int) (h : 0 ≤ x) (ha : 0 ≤ a) (ha' : a ≤ 1099511627776) : nadd (clip x) a = clip (x + a) := by unfold nadd clip; omega
theorem half_of (b : Int) (i : Nat) : b / 2 ^ i = 2 * (b / 2 ^ (i + 1)) + b / 2 ^ i % 2 := by
  have h := Int.ediv_ediv_of_nonneg (x := b) (y := 2 ^ i) (z := 2) (Int.le_of_lt (Int.pow_pos (by decide)))
  rw [Int.pow_succ, ← h]
  omega
theorem mulTo_even (a b : Int) (i : Nat) (ha : 0 ≤ a) (hb : 0 ≤ b) (h : b / 2 ^ i % 2 = 0) : mulTo a b i = clip (2 * mulTo a b (i + 1)) := by
  have h1 := half_of b i
  have h2 : 0 ≤ b / 2 ^ (i + 1) := Int.ediv_nonneg hb (Int.le_of_lt (Int.pow_pos (by decide)))
  have h3 : a * (b / 2 ^ i) = 2 * (a * (b / 2 ^ (i + 1))) := by
    rw [h1, h]; rw [Int.add_zero, ← Int.mul_assoc, ← Int.mul_assoc, Int.mul_comm a 2]
  unfold mulTo
  rw [clip_twice _ (Int.mul_nonneg ha h2), h3]
theorem mulTo_odd (a b : Int) (i : Nat) (ha : 0 ≤ a) (ha' : a ≤ 1099511627776) (hb : 0 ≤ b) (h : b / 2 ^ i % 2 = 1) : mulTo a b i = nadd (clip (2 * mulTo a b (i + 1))) a := by
  have h1 := half_of b i
  have h2 : 0 ≤ b / 2 ^ (i + 1) := Int.ediv_nonneg hb (Int.le_of_lt (Int.pow_pos (by decide)))
  have h4 := Int.mul_nonneg ha h2
  have h3 : a * (b / 2 ^ i) = 2 * (a * (b / 2 ^ (i + 1))) + a := by
    rw [h1, h, Int.mul_add, Int.mul_one, ← Int.mul_assoc, ← Int.mul_assoc, Int.mul_comm a 2]
  unfold mulTo
  rw [clip_twice _ h4, clip_more _ _ (by omega) ha ha', h3]
theorem mulTo_top (a b : Int) (hb : 0 ≤ b) (hb' : b ≤ 1099511627776) : mulTo a b 41 = 0 := by
  have : b / 2 ^ 41 = 0 := Int.ediv_eq_zero_of_lt hb (by omega)
  unfold mulTo
  rw [this]
  simp [clip]; decide
theorem mulTo_zero (x y : Int) : mulTo (clip x) (clip y) 0 = nmul x y := by simp [mulTo, nmul]

theorem and_one (m : Int) (h0 : 0 ≤ m) (h1 : m ≤ 4611686018427387904) : bits .and .i64 m 1 = m % 2 := by
  obtain ⟨n, rfl⟩ := Int.eq_ofNat_of_zero_le h0
  show IntKind.i64.wrap ((BitVec.ofInt 64 (n : Int) &&& BitVec.ofInt 64 ((1 : Nat) : Int)).toNat : Int) = _
  rw [BitVec.ofInt_natCast, BitVec.ofInt_natCast, BitVec.toNat_and, BitVec.toNat_ofNat, BitVec.toNat_ofNat, Nat.mod_eq_of_lt (by omega), Nat.mod_eq_of_lt (by omega), Nat.and_one_is_mod, IntKind.wrap_i64]
  omega
theorem half_hi (b : Int) (i : Nat) (h0 : 0 ≤ b) (h1 : b ≤ 1099511627776) : 0 ≤ b / 2 ^ i ∧ b / 2 ^ i ≤ 4611686018427387904 := by
  refine ⟨Int.ediv_nonneg h0 (Int.le_of_lt (Int.pow_pos (by decide))), ?_⟩
  have := Int.ediv_le_self (a := b) (2 ^ i) h0
  omega

theorem ndown_lo (x y : Int) : 0 ≤ ndown x y := Int.ediv_nonneg (clip_lo _) (by omega)
theorem ndown_hi (x y : Int) : ndown x y ≤ 1099511627776 := by
  have h := Int.ediv_le_self (a := clip x) (max (clip y) 1) (clip_lo x)
  have := clip_hi x
  unfold ndown; omega
theorem down_mul (a b : Int) (h0 : 0 ≤ a) (h1 : a ≤ 1099511627776) (hb : 1 ≤ b) (hb' : b ≤ 1099511627776) : nmul (a / b) b = a / b * b := by
  have h2 : 0 ≤ a / b := Int.ediv_nonneg h0 (by omega)
  have h3 : a / b ≤ a := Int.ediv_le_self _ h0
  have h4 : a / b * b ≤ a := Int.ediv_mul_le _ (by omega)
  have h5 : 0 ≤ a / b * b := Int.mul_nonneg h2 (by omega)
  unfold nmul
  rw [clip_of (a / b) h2 (by omega), clip_of b (by omega) hb', clip_of _ h5 (by omega)]
theorem up_down (a b : Int) (hb : 1 ≤ b) : (a + b - 1) / b = if a / b * b < a then a / b + 1 else a / b := by
  have h1 := Int.emod_add_mul_ediv a b
  have h2 := Int.emod_nonneg a (b := b) (by omega)
  have h3 := Int.emod_lt_of_pos a (b := b) (by omega)
  have h4 : a / b * b = b * (a / b) := Int.mul_comm _ _
  have e : ∀ q : Int, q * b ≤ a + b - 1 → a + b - 1 < (q + 1) * b → (a + b - 1) / b = q := by
    intro q p1 p2
    have q1 := (Int.le_ediv_iff_mul_le (a := q) (b := a + b - 1) (c := b) (by omega)).2 p1
    have q2 := (Int.ediv_lt_iff_lt_mul (a := a + b - 1) (b := q + 1) (c := b) (by omega)).2 p2
    omega
  split
  · refine e _ ?_ ?_
    · rw [Int.add_mul]; omega
    · rw [Int.add_mul, Int.add_mul]; omega
  · refine e _ ?_ ?_
    · omega
    · rw [Int.add_mul]; omega
theorem nup_down (x y : Int) : nup x y = if nmul (ndown x y) (max (clip y) 1) < clip x then ndown x y + 1 else ndown x y := by
  have hx0 := clip_lo x
  have hx1 := clip_hi x
  have hy0 := clip_lo y
  have hy1 := clip_hi y
  have e : nmul (ndown x y) (max (clip y) 1) = ndown x y * max (clip y) 1 := down_mul _ _ hx0 hx1 (by omega) (by omega)
  rw [e]
  exact up_down _ _ (by omega)

end Go.Proofs.Ytfdpipjkckbgdaa
