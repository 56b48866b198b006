/-
  WALKS of what the statements share: Low; lists of integers that are held against each other, lent, kept.
-/
import Derived.Test.YthocbnaphiikeaaOwn
namespace Go.Proofs.Ythocbnaphiikeaa
open Go.RowKit

theorem same_take {α : Type} {xs ys : List α} (hl : xs.length = ys.length) {k : Nat} (h : xs.take k = ys.take k) (hk : k < xs.length) (he : xs[k] = ys[k]'(by omega)) : xs.take (k + 1) = ys.take (k + 1) := by
  rw [take_succ' xs k hk, take_succ' ys k (by omega), h, he]
theorem same_not {α : Type} {xs ys : List α} {k : Nat} (hk : k < xs.length) (hk' : k < ys.length) (he : xs[k] ≠ ys[k]) : xs ≠ ys := by
  rintro rfl; exact he rfl

/-- 2^64. -/
def two64 : Int := 18446744073709551616

/-- What is lent: a copy in a block of its own, three marks behind it. -/
def lentInts (zs : List Int) : List Value := ints zs ++ ints [-777, -777, -777]

theorem ints_one (zs : List Int) : ∀ u ∈ ints zs, u.oneCell' = true := by
  intro u hu; simp [ints] at hu; obtain ⟨x, _, rfl⟩ := hu; rfl

theorem lend_fill (zs : List Int) (k : Nat) (hk : k < 3) :
    (ints zs ++ (ints (List.replicate k (-777)) ++ ints (List.replicate (3 - k) 0))).set (zs.length + k) (.int .i64 (-777)) =
      ints zs ++ (ints (List.replicate (k + 1) (-777)) ++ ints (List.replicate (3 - (k + 1)) 0)) := by
  rw [List.set_append_right _ _ (by simp [ints])]
  congr 1
  rcases k with _ | _ | _ | k
  · simp [ints]
  · simp [ints]
  · simp [ints]
  · omega

theorem lend_at (zs : List Int) (k : Nat) (hk : k < 3) :
    (ints zs ++ (ints (List.replicate k (-777)) ++ ints (List.replicate (3 - k) 0)))[zs.length + k]? = some (.int .i64 0) := by
  rw [List.getElem?_append_right (by simp [ints])]
  rcases k with _ | _ | _ | k
  · simp [ints]
  · simp [ints]
  · simp [ints]
  · omega

/-- What was lent is as it was. -/
theorem kept_room (zs : List Int) (k : Nat) (hk : k < 3) : (lentInts zs)[zs.length + k]? = some (.int .i64 (-777)) := by
  unfold lentInts
  rw [List.getElem?_append_right (by simp [ints])]
  simp [ints]
  rcases k with _ | _ | _ | k
  · rfl
  · rfl
  · rfl
  · omega

theorem low_law (x n : Int) (hn : 1 ≤ n) (hn' : n ≤ 4611686018427387904) : wrap64 ((IntKind.u64.wrap x).tmod n) = (x % two64) % n := by
  have h0 : IntKind.u64.wrap x = x % two64 := IntKind.wrap_u64 x
  have h1 : 0 ≤ x % two64 := Int.emod_nonneg _ (by decide)
  rw [h0, Int.tmod_eq_emod_of_nonneg h1]
  have h2 := Int.emod_nonneg (x % two64) (b := n) (by omega)
  have h3 := Int.emod_lt_of_pos (x % two64) (b := n) (by omega)
  exact IntWalk.wrap64_in _ ⟨by omega, by omega⟩

/-- A number from 0 to below n. -/
def low (x n : Int) : Int := (x % two64) % n
theorem low_lo (x n : Int) (hn : 1 ≤ n) : 0 ≤ low x n := Int.emod_nonneg _ (by omega)
theorem low_hi (x n : Int) (hn : 1 ≤ n) : low x n < n := Int.emod_lt_of_pos _ (by omega)

set_option maxRecDepth 100000 in
set_option maxHeartbeats 400000 in
theorem low_any (x n : Int) (w : World) (hn : 1 ≤ n) (hn' : n ≤ 4611686018427387904) :
    Calls Try.prog 14 #[.int .i64 x, .int .i64 n] w fun e w' => e = .returned (.int .i64 (low x n)) ∧ w = w' := by
  go_enter Try.func14, Try.ntmps14
  go_wp2
  go_ret
  exact ⟨ret_int (low_law x n hn hn'), rfl⟩

end Go.Proofs.Ythocbnaphiikeaa
