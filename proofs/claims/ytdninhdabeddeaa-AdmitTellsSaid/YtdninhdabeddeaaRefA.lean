/-
  WALKS of the reference of chapter 1: what each answers, for every integer.
-/
import Derived.Test.YtdninhdabeddeaaNumA
namespace Go.Proofs.Ytdninhdabeddeaa
open Go.RowKit

set_option maxRecDepth 100000 in
set_option maxHeartbeats 400000 in
theorem ref_clip (x : Int) (w : World) :
    Calls Try.prog 66 #[.int .i64 x] w fun e w' => e = .returned (.int .i64 (clip x)) ∧ w = w' := by
  by_cases h0 : x < 0
  · go_enter Try.func66, Try.ntmps66
    go_wp2
    go_ret
    exact ⟨ret_int (by unfold clip; omega), rfl⟩
  · by_cases h1 : 1099511627776 < x
    · go_enter Try.func66, Try.ntmps66
      go_wp2
      go_ret
      exact ⟨ret_int (by unfold clip; omega), rfl⟩
    · go_enter Try.func66, Try.ntmps66
      go_wp2
      go_ret
      exact ⟨ret_int (by unfold clip; omega), rfl⟩

set_option maxRecDepth 100000 in
set_option maxHeartbeats 400000 in
theorem ref_add (x y : Int) (w : World) :
    Calls Try.prog 61 #[.int .i64 x, .int .i64 y] w fun e w' => e = .returned (.int .i64 (nadd x y)) ∧ w = w' := by
  have hx0 := clip_lo x
  have hx1 := clip_hi x
  have hy0 := clip_lo y
  have hy1 := clip_hi y
  go_enter Try.func61, Try.ntmps61
  go_wp2_with (go_at_call 66; refine (ref_clip _ _).mono ?_; rintro e w' ⟨rfl, rfl⟩)
  go_ret
  exact ⟨rfl, rfl⟩

theorem nadd_nsum (a b : Int) : nadd a b = nsum [a, b] := by simp [nsum, nadd]; unfold clip; omega
theorem nadd_nsum3 (a b c : Int) : nadd (nadd a b) c = nsum [a, b, c] := by simp [nsum, nadd]; unfold clip; omega

theorem nadd_sum (s x : Int) (h0 : 0 ≤ s) (h1 : s ≤ 1099511627776) : nadd s x = clip (s + clip x) := by unfold nadd; rw [clip_of s h0 h1]

set_option maxRecDepth 100000 in
set_option maxHeartbeats 400000 in
theorem ref_sum (A : Option Addr) (n c : Nat) (zs : List Int) (w : World) (hn : n ≤ 9223372036854775807) (hr : Rd w A (ints zs)) (hl : zs.length = n) :
    Calls Try.prog 70 #[.slice A n c] w fun e w' => e = .returned (.int .i64 (nsum zs)) ∧ w = w' := by
  subst hl
  go_enter Try.func70, Try.ntmps70
  go_wp2
  go_loop [3, 4] (fun s i => ∃ k : Nat, k ≤ zs.length ∧ i = .int .i64 k ∧ s = .int .i64 (nsum (zs.take k))) (fun _ i => zs.length - (intOf i).toNat)
  case atStart => exact ⟨0, Nat.zero_le _, rfl, rfl⟩
  case round =>
    obtain ⟨k, hk, rfl, rfl⟩ := hrel
    have b0 := nsum_lo (zs.take k)
    have b1 := nsum_hi (zs.take k)
    by_cases hlt : k < zs.length
    · obtain ⟨b, off, rfl, hc⟩ := hr.int hlt
      have HS := Lib.hid (nsum_snoc (zs.take k) zs[k])
      have HT := Lib.hid (nadd_sum (nsum (zs.take k)) zs[k] b0 b1)
      go_wp2_with (go_at_call 61; refine (ref_add _ _ _).mono ?_; rintro e w' ⟨rfl, rfl⟩)
      go_round
      case rel => exact ⟨k + 1, by omega, by go_num, by rw [take_succ' _ _ hlt, HS.out, HT.out]⟩
      case measure => simp [intOf]; omega
    · go_wp2
      go_ret
      exact ⟨ret_int (by rw [List.take_of_length_le (by omega)]), rfl⟩

/-- After the bits above i of b. -/
def mulTo (a b : Int) (i : Nat) : Int := clip (a * (b / 2 ^ i))
theorem mulTo_lo (a b : Int) (i : Nat) : 0 ≤ mulTo a b i := clip_lo _
theorem mulTo_hi (a b : Int) (i : Nat) : mulTo a b i ≤ 1099511627776 := clip_hi _
theorem clip_twice (x : Int) (h : 0 ≤ x) : clip (2 * clip x) = clip (2 * x) := by unfold clip; omega
theorem clip_more (x a : Int) (h : 0 ≤ x) (ha : 0 ≤ a) (ha' : a ≤ 1099511627776) : nadd (clip x) a = clip (x + a) := by unfold nadd clip; omega
theorem half_of (b : Int) (i : Nat) : b / 2 ^ i = 2 * (b / 2 ^ (i + 1)) + b / 2 ^ i % 2 := by
  have h := Int.ediv_ediv_of_nonneg (x := b) (y := 2 ^ i) (z := 2) (Int.le_of_lt (Int.pow_pos (by decide)))
  rw [Int.pow_succ, ← h]
  omega
theorem mulTo_even (a b : Int) (i : Nat) (ha : 0 ≤ a) (hb : 0 ≤ b) (h : b / 2 ^ i % 2 = 0) : mulTo a b i = clip (2 * mulTo a b (i + 1)) := by
  have h1 := half_of b i
  have h2 : 0 ≤ b / 2 ^ (i + 1) := Int.ediv_nonneg hb (Int.le_of_lt (Int.pow_pos (by decide)))
  have h3 : a * (b / 2 ^ i) = 2 * (a * (b / 2 ^ (i + 1))) := by
    rw [h1, h]; rw [Int.add_zero, ← Int.mul_assoc, ← Int.mul_assoc, Int.mul_comm a 2]
  unfold mulTo
  rw [clip_twice _ (Int.mul_nonneg ha h2), h3]
theorem mulTo_odd (a b : Int) (i : Nat) (ha : 0 ≤ a) (ha' : a ≤ 1099511627776) (hb : 0 ≤ b) (h : b / 2 ^ i % 2 = 1) : mulTo a b i = nadd (clip (2 * mulTo a b (i + 1))) a := by
  have h1 := half_of b i
  have h2 : 0 ≤ b / 2 ^ (i + 1) := Int.ediv_nonneg hb (Int.le_of_lt (Int.pow_pos (by decide)))
  have h4 := Int.mul_nonneg ha h2
  have h3 : a * (b / 2 ^ i) = 2 * (a * (b / 2 ^ (i + 1))) + a := by
    rw [h1, h, Int.mul_add, Int.mul_one, ← Int.mul_assoc, ← Int.mul_assoc, Int.mul_comm a 2]
  unfold mulTo
  rw [clip_twice _ h4, clip_more _ _ (by omega) ha ha', h3]
theorem mulTo_top (a b : Int) (hb : 0 ≤ b) (hb' : b ≤ 1099511627776) : mulTo a b 41 = 0 := by
  have : b / 2 ^ 41 = 0 := Int.ediv_eq_zero_of_lt hb (by omega)
  unfold mulTo
  rw [this]
  simp [clip]; decide
theorem mulTo_zero (x y : Int) : mulTo (clip x) (clip y) 0 = nmul x y := by simp [mulTo, nmul]

theorem and_one (m : Int) (h0 : 0 ≤ m) (h1 : m ≤ 4611686018427387904) : bits .and .i64 m 1 = m % 2 := by
  obtain ⟨n, rfl⟩ := Int.eq_ofNat_of_zero_le h0
  show IntKind.i64.wrap ((BitVec.ofInt 64 (n : Int) &&& BitVec.ofInt 64 ((1 : Nat) : Int)).toNat : Int) = _
  rw [BitVec.ofInt_natCast, BitVec.ofInt_natCast, BitVec.toNat_and, BitVec.toNat_ofNat, BitVec.toNat_ofNat, Nat.mod_eq_of_lt (by omega), Nat.mod_eq_of_lt (by omega), Nat.and_one_is_mod, IntKind.wrap_i64]
  omega
theorem half_hi (b : Int) (i : Nat) (h0 : 0 ≤ b) (h1 : b ≤ 1099511627776) : 0 ≤ b / 2 ^ i ∧ b / 2 ^ i ≤ 4611686018427387904 := by
  refine ⟨Int.ediv_nonneg h0 (Int.le_of_lt (Int.pow_pos (by decide))), ?_⟩
  have := Int.ediv_le_self (a := b) (2 ^ i) h0
  omega

set_option maxRecDepth 100000 in
set_option maxHeartbeats 400000 in
theorem ref_mul (x y : Int) (w : World) :
    Calls Try.prog 79 #[.int .i64 x, .int .i64 y] w fun e w' => e = .returned (.int .i64 (nmul x y)) ∧ w = w' := by
  have hx0 := clip_lo x
  have hx1 := clip_hi x
  have hy0 := clip_lo y
  have hy1 := clip_hi y
  go_enter Try.func79, Try.ntmps79
  go_wp2_with (go_at_call 66; refine (ref_clip _ _).mono ?_; rintro e w' ⟨rfl, rfl⟩)
  go_loop [5, 6] (fun n i => ∃ k : Nat, k ≤ 41 ∧ i = .int .i64 ((k : Int) - 1) ∧ n = .int .i64 (mulTo (clip x) (clip y) k)) (fun _ i => (intOf i + 1).toNat)
  case atStart => exact ⟨41, by omega, rfl, by rw [mulTo_top _ _ hy0 hy1]⟩
  case round =>
    obtain ⟨k, hk, rfl, rfl⟩ := hrel
    rcases k with _ | k
    · go_wp2
      go_ret
      exact ⟨ret_int (mulTo_zero x y), rfl⟩
    · have b0 := mulTo_lo (clip x) (clip y) (k + 1)
      have b1 := mulTo_hi (clip x) (clip y) (k + 1)
      have h2 := half_hi (clip y) k hy0 hy1
      have HA := Lib.hid (and_one (clip y / 2 ^ k) h2.1 h2.2)
      clear h2
      rcases Int.emod_two_eq (clip y / 2 ^ k) with h3 | h3
      · have h4 : (bits BinOp.and IntKind.i64 (clip y / 2 ^ k) 1 == 1) = false := by rw [HA.out, h3]; rfl
        have H5 := Lib.hid (mulTo_even (clip x) (clip y) k hx0 hy0 h3)
        clear h3
        go_wp2_with (first | (go_at_call 66; refine (ref_clip _ _).mono ?_; rintro e w' ⟨rfl, rfl⟩) | (go_at_call 61; refine (ref_add _ _ _).mono ?_; rintro e w' ⟨rfl, rfl⟩))
        go_round
        case rel => exact ⟨k, by omega, rfl, by rw [H5.out]⟩
        case measure => simp [intOf]
      · have h4 : (bits BinOp.and IntKind.i64 (clip y / 2 ^ k) 1 == 1) = true := by rw [HA.out, h3]; rfl
        have H5 := Lib.hid (mulTo_odd (clip x) (clip y) k hx0 hx1 hy0 h3)
        clear h3
        go_wp2_with (first | (go_at_call 66; refine (ref_clip _ _).mono ?_; rintro e w' ⟨rfl, rfl⟩) | (go_at_call 61; refine (ref_add _ _ _).mono ?_; rintro e w' ⟨rfl, rfl⟩))
        go_round
        case rel => exact ⟨k, by omega, rfl, by rw [H5.out]⟩
        case measure => simp [intOf]

theorem refdown_val (x y : Int) : clip x / max (clip y) 1 = ndown x y := rfl
set_option maxRecDepth 100000 in
set_option maxHeartbeats 400000 in
theorem ref_down (x y : Int) (w : World) :
    Calls Try.prog 81 #[.int .i64 x, .int .i64 y] w fun e w' => e = .returned (.int .i64 (ndown x y)) ∧ w = w' := by
  have hx0 := clip_lo x
  have hx1 := clip_hi x
  have hy0 := clip_lo y
  have hy1 := clip_hi y
  by_cases h : clip y < 1
  · go_enter Try.func81, Try.ntmps81
    go_wp2_with (go_at_call 66; refine (ref_clip _ _).mono ?_; rintro e w' ⟨rfl, rfl⟩)
    go_ret
    exact ⟨ret_int (by unfold ndown; rw [Int.max_eq_right (by omega)]; simp), rfl⟩
  · go_enter Try.func81, Try.ntmps81
    go_wp2_with (go_at_call 66; refine (ref_clip _ _).mono ?_; rintro e w' ⟨rfl, rfl⟩)
    go_ret
    exact ⟨ret_int (by unfold ndown; rw [Int.max_eq_left (by omega)]), rfl⟩

theorem ndown_lo (x y : Int) : 0 ≤ ndown x y := Int.ediv_nonneg (clip_lo _) (by omega)
theorem ndown_hi (x y : Int) : ndown x y ≤ 1099511627776 := by
  have h := Int.ediv_le_self (a := clip x) (max (clip y) 1) (clip_lo x)
  have := clip_hi x
  unfold ndown; omega
theorem down_mul (a b : Int) (h0 : 0 ≤ a) (h1 : a ≤ 1099511627776) (hb : 1 ≤ b) (hb' : b ≤ 1099511627776) : nmul (a / b) b = a / b * b := by
  have h2 : 0 ≤ a / b := Int.ediv_nonneg h0 (by omega)
  have h3 : a / b ≤ a := Int.ediv_le_self _ h0
  have h4 : a / b * b ≤ a := Int.ediv_mul_le _ (by omega)
  have h5 : 0 ≤ a / b * b := Int.mul_nonneg h2 (by omega)
  unfold nmul
  rw [clip_of (a / b) h2 (by omega), clip_of b (by omega) hb', clip_of _ h5 (by omega)]
theorem up_down (a b : Int) (hb : 1 ≤ b) : (a + b - 1) / b = if a / b * b < a then a / b + 1 else a / b := by
  have h1 := Int.emod_add_mul_ediv a b
  have h2 := Int.emod_nonneg a (b := b) (by omega)
  have h3 := Int.emod_lt_of_pos a (b := b) (by omega)
  have h4 : a / b * b = b * (a / b) := Int.mul_comm _ _
  have e : ∀ q : Int, q * b ≤ a + b - 1 → a + b - 1 < (q + 1) * b → (a + b - 1) / b = q := by
    intro q p1 p2
    have q1 := (Int.le_ediv_iff_mul_le (a := q) (b := a + b - 1) (c := b) (by omega)).2 p1
    have q2 := (Int.ediv_lt_iff_lt_mul (a := a + b - 1) (b := q + 1) (c := b) (by omega)).2 p2
    omega
  split
  · refine e _ ?_ ?_
    · rw [Int.add_mul]; omega
    · rw [Int.add_mul, Int.add_mul]; omega
  · refine e _ ?_ ?_
    · omega
    · rw [Int.add_mul]; omega
theorem nup_down (x y : Int) : nup x y = if nmul (ndown x y) (max (clip y) 1) < clip x then ndown x y + 1 else ndown x y := by
  have hx0 := clip_lo x
  have hx1 := clip_hi x
  have hy0 := clip_lo y
  have hy1 := clip_hi y
  have e : nmul (ndown x y) (max (clip y) 1) = ndown x y * max (clip y) 1 := down_mul _ _ hx0 hx1 (by omega) (by omega)
  rw [e]
  exact up_down _ _ (by omega)

set_option maxRecDepth 100000 in
set_option maxHeartbeats 400000 in
theorem ref_up (x y : Int) (w : World) :
    Calls Try.prog 80 #[.int .i64 x, .int .i64 y] w fun e w' => e = .returned (.int .i64 (nup x y)) ∧ w = w' := by
  have hx0 := clip_lo x
  have hx1 := clip_hi x
  have hy0 := clip_lo y
  have hy1 := clip_hi y
  have d0 := ndown_lo x y
  have d1 := ndown_hi x y
  have H := Lib.hid (nup_down x y)
  by_cases h : clip y < 1
  · have HM := Lib.hid (Int.max_eq_right (a := clip y) (b := 1) (by omega))
    by_cases h2 : nmul (ndown x y) 1 < clip x
    · go_enter Try.func80, Try.ntmps80
      go_wp2_with (first | (go_at_call 66; refine (ref_clip _ _).mono ?_; rintro e w' ⟨rfl, rfl⟩) | (go_at_call 81; refine (ref_down _ _ _).mono ?_; rintro e w' ⟨rfl, rfl⟩) | (go_at_call 79; refine (ref_mul _ _ _).mono ?_; rintro e w' ⟨rfl, rfl⟩))
      go_ret
      exact ⟨ret_int (by rw [H.out, HM.out, if_pos h2]), rfl⟩
    · go_enter Try.func80, Try.ntmps80
      go_wp2_with (first | (go_at_call 66; refine (ref_clip _ _).mono ?_; rintro e w' ⟨rfl, rfl⟩) | (go_at_call 81; refine (ref_down _ _ _).mono ?_; rintro e w' ⟨rfl, rfl⟩) | (go_at_call 79; refine (ref_mul _ _ _).mono ?_; rintro e w' ⟨rfl, rfl⟩))
      go_ret
      exact ⟨ret_int (by rw [H.out, HM.out, if_neg (by omega)]), rfl⟩
  · have HM := Lib.hid (Int.max_eq_left (a := clip y) (b := 1) (by omega))
    by_cases h2 : nmul (ndown x y) (clip y) < clip x
    · go_enter Try.func80, Try.ntmps80
      go_wp2_with (first | (go_at_call 66; refine (ref_clip _ _).mono ?_; rintro e w' ⟨rfl, rfl⟩) | (go_at_call 81; refine (ref_down _ _ _).mono ?_; rintro e w' ⟨rfl, rfl⟩) | (go_at_call 79; refine (ref_mul _ _ _).mono ?_; rintro e w' ⟨rfl, rfl⟩))
      go_ret
      exact ⟨ret_int (by rw [H.out, HM.out, if_pos h2]), rfl⟩
    · go_enter Try.func80, Try.ntmps80
      go_wp2_with (first | (go_at_call 66; refine (ref_clip _ _).mono ?_; rintro e w' ⟨rfl, rfl⟩) | (go_at_call 81; refine (ref_down _ _ _).mono ?_; rintro e w' ⟨rfl, rfl⟩) | (go_at_call 79; refine (ref_mul _ _ _).mono ?_; rintro e w' ⟨rfl, rfl⟩))
      go_ret
      exact ⟨ret_int (by rw [H.out, HM.out, if_neg (by omega)]), rfl⟩

end Go.Proofs.Ytdninhdabeddeaa
