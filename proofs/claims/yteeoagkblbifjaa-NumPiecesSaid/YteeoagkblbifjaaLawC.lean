/-
  WALKS of the statements on num, chapter 1: NumPieces.
-/
import Derived.Test.YteeoagkblbifjaaLawA
import Derived.Test.YteeoagkblbifjaaApp
namespace Go.Proofs.Yteeoagkblbifjaa
open Go.RowKit

theorem nsum_append (l m : List Int) : nsum (l ++ m) = clip (nsum l + nsum m) := by
  rcases List.eq_nil_or_concat m with rfl | ⟨m', x, rfl⟩
  · simp [nsum]
    exact (clip_of _ (nsum_lo l) (nsum_hi l)).symm
  · rw [List.concat_eq_append, ← List.append_assoc, nsum_snoc, nsum_append l m', nsum_snoc]
    have h1 := nsum_lo l
    have h2 := nsum_lo m'
    have h3 := clip_lo x
    generalize clip x = y at *
    unfold clip; omega
  termination_by m.length
  decreasing_by subst_vars; simp
theorem ints_app (xs ys : List Int) : ints xs ++ ints ys = ints (xs ++ ys) := by simp [ints]
theorem pieces_law (l m : List Int) : nsum [nsum l, nsum m] = nsum (l ++ m) := by
  rw [nsum2, nsum_append]; unfold nadd
  rw [clip_of _ (nsum_lo l) (nsum_hi l), clip_of _ (nsum_lo m) (nsum_hi m)]
theorem pieces_back (l m : List Int) : nsum (m ++ l) = nsum (l ++ m) := by rw [nsum_append, nsum_append, Int.add_comm]

set_option maxHeartbeats 1000000 in
theorem law_pieces (A : Option Addr) (n c : Nat) (xs : List Int) (B : Option Addr) (m d : Nat) (ys : List Int) (w : World) (ga : IntsArg w A n xs) (gb : IntsArg w B m ys) :
    Calls Try.prog 7 #[.slice A n c, .slice B m d] w fun e w' => e = .returned (.bool true) ∧ Below w.heap.size w w' := by
  obtain ⟨ha, na, ra, _⟩ := ga
  obtain ⟨hb, nb, rb, _⟩ := gb
  by_cases h1 : 25 < n
  · go_enter Try.func7, Try.ntmps7
    go_wp2_with (go_at_call 8; refine (awake_any _).mono ?_; rintro e w' ⟨rfl, hb⟩)
    go_ret
    exact ⟨rfl, hb⟩
  · by_cases h2 : 25 < m
    · go_enter Try.func7, Try.ntmps7
      go_wp2_with (go_at_call 8; refine (awake_any _).mono ?_; rintro e w' ⟨rfl, hb⟩)
      go_ret
      exact ⟨rfl, hb⟩
    · obtain ⟨i0, hi, hz0, hz1, hz2⟩ := info_parts info_int
      have L1 := pieces_law xs ys
      have L2 := pieces_back xs ys
      have HA := Lib.hid ha
      have HB := Lib.hid hb
      clear ha hb
      go_enter Try.func7, Try.ntmps7
      have LA := Lib.hid (by simp [ints, HA.out] : (ints xs).length = n * 1)
      have LB := Lib.hid (by simp [ints, HB.out] : (ints ys).length = m * 1)
      go_wp2_with (first
        | (at_builtin; refine wpl_append _ rfl (.const (.slice none 0 0)) (.tmp 17) 22 rfl 3 i0 _ 1 8 Try.underlying22 hi hz0 hz1 hz2 rfl (by omega) w.heap.size none 0 0 [] rfl (Row.nil _ _ _ _) A n c (ints xs) rfl LA.out ra (ints_one xs) n (ints xs) (by omega) rfl (by omega) (by omega) (Nat.le_refl _) ?_; intro A1 c1 w1 o1 g1 e1; have b1 : Below w.heap.size w w1 := below_grown (Below.refl _ _) g1 (Nat.le_refl _) (by simp [blk]))
        | (at_builtin; refine wpl_append _ rfl (.tmp 18) (.tmp 19) 22 rfl 3 i0 _ 1 8 Try.underlying22 hi hz0 hz1 hz2 rfl (by omega) w.heap.size A1 n c1 _ rfl o1 B m d (ints ys) rfl LB.out (rb.keep b1) (ints_one ys) (n + m) (ints (xs ++ ys)) rfl (ints_app xs ys) (by omega) (by omega) b1.size ?_; intro A2 c2 w2 o2 g2 e2; have b2 : Below w.heap.size w w2 := below_grown b1 g2 b1.size (fun g hg => (o1.at_ g hg).1))
        | (at_builtin; refine wpl_append _ rfl (.const (.slice none 0 0)) (.tmp 21) 22 rfl 3 i0 _ 1 8 Try.underlying22 hi hz0 hz1 hz2 rfl (by omega) w2.heap.size none 0 0 [] rfl (Row.nil _ _ _ _) B m d (ints ys) rfl LB.out (rb.keep b2) (ints_one ys) m (ints ys) (by omega) rfl (by omega) (by omega) (Nat.le_refl _) ?_; intro A3 c3 w3 o3 g3 e3; have b3 : Below w2.heap.size w2 w3 := below_grown (Below.refl _ _) g3 (Nat.le_refl _) (by simp [blk]))
        | (at_builtin; refine wpl_append _ rfl (.tmp 22) (.tmp 23) 22 rfl 3 i0 _ 1 8 Try.underlying22 hi hz0 hz1 hz2 rfl (by omega) w2.heap.size A3 m c3 _ rfl o3 A n c (ints xs) rfl LA.out ((ra.keep b2).keep b3) (ints_one xs) (m + n) (ints (ys ++ xs)) rfl (ints_app ys xs) (by omega) (by omega) b3.size ?_; intro A4 c4 w4 o4 g4 e4; have b4 : Below w2.heap.size w2 w4 := below_grown b3 g4 b3.size (fun g hg => (o3.at_ g hg).1))
        | fail)
      have q1 := (o2.keep b4).rd
      have q2 := (ra.keep b2).keep b4
      have q3 := (rb.keep b2).keep b4
      have q4 : Rd (w4.alloc (.cells #[.int .i64 (nsum xs), .int .i64 (nsum ys)] 3)) (some ⟨w4.heap.size, 0, none⟩) (ints [nsum xs, nsum ys]) := (Own.new w4 3 (ints [nsum xs, nsum ys])).rd0
      have q5 := (o4.alloc (.cells #[.int .i64 (nsum xs), .int .i64 (nsum ys)] 3)).rd
      have k1 : (xs ++ ys).length = n + m := by simp [HA.out, HB.out]
      have k2 : (ys ++ xs).length = m + n := by simp [HA.out, HB.out]
      have k3 : n + m ≤ 9223372036854775807 := by omega
      have k4 : m + n ≤ 9223372036854775807 := by omega
      have k5 : 2 ≤ 9223372036854775807 := by omega
      have K1 := Lib.hid k1
      have K2 := Lib.hid k2
      have s4 := b4.size
      have s2 := b2.size
      clear k1 k2 o1 o2 o3 o4 e1 e2 e3 e4 g1 g2 g3 g4 b1 b3
      refine (num_add _ _ _ (xs ++ ys) _ k3 q1 K1.out).mono ?_; rintro e w' ⟨rfl, rfl⟩
      go_wp2_with fail
      refine (num_add _ _ _ xs _ na q2 HA.out).mono ?_; rintro e w' ⟨rfl, rfl⟩
      go_wp2_with fail
      refine (num_add _ _ _ ys _ nb q3 HB.out).mono ?_; rintro e w' ⟨rfl, rfl⟩
      go_wp2_with fail
      refine (num_add _ _ _ [nsum xs, nsum ys] _ k5 q4 rfl).mono ?_; rintro e w' ⟨rfl, rfl⟩
      go_wp2_with fail
      refine (num_add _ _ _ (ys ++ xs) _ k4 q5 K2.out).mono ?_; rintro e w' ⟨rfl, rfl⟩
      go_wp2_with fail
      refine (awake_any _).mono ?_; rintro e w5 ⟨rfl, b5⟩
      go_wp2_with fail
      go_ret
      exact ⟨rfl, (b2.trans (b4.mono b2.size)).trans (((Below.refl _ _).alloc (Nat.le_trans b2.size b4.size) _).trans (b5.mono (by simp; omega)))⟩

end Go.Proofs.Yteeoagkblbifjaa
