/-
  WALKS of what the statements share: Low; lists of integers that are held against each other, lent, kept.
-/
import Derived.Test.YtfdpipjkckbgdaaOwn
namespace Go.Proofs.Ytfdpipjkckbgdaa
open Go.RowKit

theorem same_take {α : Type} {xs ys : List α} (hl : xs.length = ys.length) {k : Nat} (h : xs.take k = ys.take k) (hk : k < xs.length) (he : xs[k] = ys[k]'(by omega)) : xs.take (k + 1) = ys.take (k + 1) := by
  rw [take_succ' xs k hk, take_succ' ys k (by omega), h, he]
theorem same_not {α : Type} {xs ys : List α} {k : Nat} (hk : k < xs.length) (hk' : k < ys.length) (he : xs[k] ≠ ys[k]) : xs ≠ ys := by
  rintro rfl; exact he rfl

set_option maxRecDepth 100000 in
set_option maxHeartbeats 400000 in
theorem same_ints (A B : Option Addr) (n m c d : Nat) (xs ys : List Int) (w : World) (hn : n ≤ 9223372036854775807) (hm : m ≤ 9223372036854775807)
    (ha : Rd w A (ints xs)) (hb : Rd w B (ints ys)) (hla : xs.length = n) (hlb : ys.length = m) :
    Calls Try.prog 24 #[.slice A n c, .slice B m d] w fun e w' => e = .returned (.bool (decide (xs = ys))) ∧ ∃ q, w' = w.drewN q := by
  subst hla; subst hlb
  by_cases hl : xs.length = ys.length
  · have hl' : (((xs.length : Nat) : Int) != ((ys.length : Nat) : Int)) = false := by simp [hl]
    have H := Lib.hid hl
    have hle : ys.length ≤ xs.length := by omega
    clear hl
    go_enter Try.func24, Try.ntmps24
    go_wp2
    go_loopw [5] (fun i wr => ∃ k : Nat, k ≤ xs.length ∧ i = .int .i64 k ∧ Hid (xs.take k = ys.take k) ∧ ∃ q, wr = w.drewN q) (fun i _ => xs.length - (intOf i).toNat)
    case atStart => exact ⟨0, Nat.zero_le _, rfl, rfl, 0, rfl⟩
    case round =>
      obtain ⟨k, hk, rfl, hs, q, rfl⟩ := hrel
      by_cases hlt : k < xs.length
      · have hlt' : k < ys.length := by have := H.out; omega
        obtain ⟨b, off, rfl, hc⟩ := ha.int hlt
        obtain ⟨b', off', rfl, hc'⟩ := hb.int hlt'
        by_cases he : xs[k] = ys[k]
        · have hne : (xs[k] != ys[k]) = false := by simp [he]
          have HE := Lib.hid he
          clear he
          go_wp2
          go_quiet (fail)
          go_wp2
          go_roundw
          case rel => exact ⟨k + 1, by omega, by go_num, same_take H.out hs.out hlt HE.out, _, rfl⟩
          case measure => simp [intOf]; omega
        · have hne : (xs[k] != ys[k]) = true := by simp [he]
          have HE := Lib.hid (same_not hlt hlt' he)
          clear he
          go_wp2
          go_quiet (fail)
          go_wp2
          go_ret
          exact ⟨ret_bool (by simp [HE.out]), _, World.drewN_drewN _ _ _⟩
      · go_wp2
        go_ret
        refine ⟨ret_bool ?_, _, rfl⟩
        have h1 := hs.out
        have h2 := H.out
        rw [List.take_of_length_le (by omega), List.take_of_length_le (by omega)] at h1
        simp [h1]
  · have hl' : (((xs.length : Nat) : Int) != ((ys.length : Nat) : Int)) = true := by simp; omega
    have HE : Hid (xs ≠ ys) := by rintro rfl; exact hl rfl
    clear hl
    go_enter Try.func24, Try.ntmps24
    go_wp2
    go_ret
    exact ⟨ret_bool (by simp [HE.out]), 0, rfl⟩

/-- 2^64. -/
def two64 : Int := 18446744073709551616

/-- What is lent: a copy in a block of its own, three marks behind it. -/
def lentInts (zs : List Int) : List Value := ints zs ++ ints [-777, -777, -777]

theorem ints_one (zs : List Int) : ∀ u ∈ ints zs, u.oneCell' = true := by
  intro u hu; simp [ints] at hu; obtain ⟨x, _, rfl⟩ := hu; rfl

theorem lend_fill (zs : List Int) (k : Nat) (hk : k < 3) :
    (ints zs ++ (ints (List.replicate k (-777)) ++ ints (List.replicate (3 - k) 0))).set (zs.length + k) (.int .i64 (-777)) =
      ints zs ++ (ints (List.replicate (k + 1) (-777)) ++ ints (List.replicate (3 - (k + 1)) 0)) := by
  rw [List.set_append_right _ _ (by simp [ints])]
  congr 1
  rcases k with _ | _ | _ | k
  · simp [ints]
  · simp [ints]
  · simp [ints]
  · omega

theorem lend_at (zs : List Int) (k : Nat) (hk : k < 3) :
    (ints zs ++ (ints (List.replicate k (-777)) ++ ints (List.replicate (3 - k) 0)))[zs.length + k]? = some (.int .i64 0) := by
  rw [List.getElem?_append_right (by simp [ints])]
  rcases k with _ | _ | _ | k
  · simp [ints]
  · simp [ints]
  · simp [ints]
  · omega

/-- What was lent is as it was. -/
theorem kept_room (zs : List Int) (k : Nat) (hk : k < 3) : (lentInts zs)[zs.length + k]? = some (.int .i64 (-777)) := by
  unfold lentInts
  rw [List.getElem?_append_right (by simp [ints])]
  simp [ints]
  rcases k with _ | _ | _ | k
  · rfl
  · rfl
  · rfl
  · omega

theorem low_law (x n : Int) (hn : 1 ≤ n) (hn' : n ≤ 4611686018427387904) : wrap64 ((IntKind.u64.wrap x).tmod n) = (x % two64) % n := by
  have h0 : IntKind.u64.wrap x = x % two64 := IntKind.wrap_u64 x
  have h1 : 0 ≤ x % two64 := Int.emod_nonneg _ (by decide)
  rw [h0, Int.tmod_eq_emod_of_nonneg h1]
  have h2 := Int.emod_nonneg (x % two64) (b := n) (by omega)
  have h3 := Int.emod_lt_of_pos (x % two64) (b := n) (by omega)
  exact IntWalk.wrap64_in _ ⟨by omega, by omega⟩

/-- A number from 0 to below n. -/
def low (x n : Int) : Int := (x % two64) % n
theorem low_lo (x n : Int) (hn : 1 ≤ n) : 0 ≤ low x n := Int.emod_nonneg _ (by omega)
theorem low_hi (x n : Int) (hn : 1 ≤ n) : low x n < n := Int.emod_lt_of_pos _ (by omega)

set_option maxRecDepth 100000 in
set_option maxHeartbeats 400000 in
theorem low_any (x n : Int) (w : World) (hn : 1 ≤ n) (hn' : n ≤ 4611686018427387904) :
    Calls Try.prog 12 #[.int .i64 x, .int .i64 n] w fun e w' => e = .returned (.int .i64 (low x n)) ∧ w = w' := by
  go_enter Try.func12, Try.ntmps12
  go_wp2
  go_ret
  exact ⟨ret_int (low_law x n hn hn'), rfl⟩

/-- Structs of three integers that are lent. -/
def lentTrips (ps : List (Int × Int × Int)) : List Value := trips (ps ++ [(-7, 0, 0), (-7, 0, 0), (-7, 0, 0)])
theorem lent3_get (ps : List (Int × Int × Int)) (k : Nat) (hk : k < 3) (qs : List (Int × Int × Int)) (hq : qs.length = 3) :
    (trips (ps ++ qs))[(ps.length + k) * 3]? = some (.int .i64 (qs[k]'(by omega)).1) ∧ (trips (ps ++ qs))[(ps.length + k) * 3 + 1]? = some (.int .i64 (qs[k]'(by omega)).2.1) ∧ (trips (ps ++ qs))[(ps.length + k) * 3 + 2]? = some (.int .i64 (qs[k]'(by omega)).2.2) := by
  have h := trips_get (ps ++ qs) (ps.length + k) (by simp; omega)
  have e : (ps ++ qs)[ps.length + k]'(by simp; omega) = qs[k]'(by omega) := by
    rw [List.getElem_append_right (by omega)]; simp
  rw [e] at h; exact h
theorem lend3_fill (ps : List (Int × Int × Int)) (k : Nat) (hk : k < 3) :
    (((trips (ps ++ (List.replicate k (-7, 0, 0) ++ List.replicate (3 - k) (0, 0, 0)))).set (ps.length * 3 + k * 3) (.int .i64 (-7))).set (ps.length * 3 + k * 3 + 1) (.int .i64 0)).set (ps.length * 3 + k * 3 + 2) (.int .i64 0) =
      trips (ps ++ (List.replicate (k + 1) (-7, 0, 0) ++ List.replicate (3 - (k + 1)) (0, 0, 0))) := by
  have hl : (trips ps).length = ps.length * 3 := by rw [trips_len]; omega
  rw [← trips_app, ← trips_app ps]
  rw [← hl, List.set_append_right _ _ (by omega), List.set_append_right _ _ (by omega), List.set_append_right _ _ (by omega)]
  congr 1
  rw [show (trips ps).length + k * 3 - (trips ps).length = k * 3 by omega, show (trips ps).length + k * 3 + 1 - (trips ps).length = k * 3 + 1 by omega, show (trips ps).length + k * 3 + 2 - (trips ps).length = k * 3 + 2 by omega]
  rcases k with _ | _ | _ | k
  · rfl
  · rfl
  · rfl
  · omega

theorem madeTrips (n : Nat) : (madeCells #[.int .i64 0, .int .i64 0, .int .i64 0] (n * 3)).toList = trips (List.replicate n (0, 0, 0)) := by
  refine List.ext_getElem? fun k => ?_
  by_cases hk : k < n * 3
  · have h1 : (madeCells #[.int .i64 0, .int .i64 0, .int .i64 0] (n * 3)).toList[k]? = some (.int .i64 0) := by
      simp only [madeCells, Array.toList_map, Array.toList_range, List.getElem?_map, List.getElem?_range hk, Option.map_some]
      have h3 : k % 3 = 0 ∨ k % 3 = 1 ∨ k % 3 = 2 := by omega
      rcases h3 with h | h | h <;> simp [h]
    rw [h1]
    have hi : k / 3 < (List.replicate n ((0, 0, 0) : Int × Int × Int)).length := by simp; omega
    obtain ⟨g1, g2, g3⟩ := trips_get (List.replicate n (0, 0, 0)) (k / 3) hi
    have hdiv : k = k / 3 * 3 + k % 3 := by omega
    have h3 : k % 3 = 0 ∨ k % 3 = 1 ∨ k % 3 = 2 := by omega
    rcases h3 with h | h | h
    · rw [h, Nat.add_zero] at hdiv
      rw [← hdiv] at g1; rw [g1]; simp
    · rw [h] at hdiv
      rw [← hdiv] at g2; rw [g2]; simp
    · rw [h] at hdiv
      rw [← hdiv] at g3; rw [g3]; simp
  · rw [List.getElem?_eq_none (by simp [madeCells]; omega), List.getElem?_eq_none (by rw [trips_len]; simp; omega)]

end Go.Proofs.Ytfdpipjkckbgdaa
