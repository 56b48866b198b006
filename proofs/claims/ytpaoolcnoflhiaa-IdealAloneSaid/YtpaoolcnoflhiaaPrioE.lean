/-
  WALKS of the statements on prio, chapter 7: PrioOrder.
-/
import Derived.Test.YtpaoolcnoflhiaaPrioD
namespace Go.Proofs.Ytpaoolcnoflhiaa
open Go.RowKit
attribute [local go_sem] depUpon Sp.ok

theorem icmp_swap (x y : Int) : icmp y x = -icmp x y := by unfold icmp; split <;> split <;> (try split) <;> omega
theorem icmp_self (x : Int) : icmp x x = 0 := by unfold icmp; split <;> (try split) <;> omega
theorem icmp_rng (x y : Int) : icmp x y = -1 ∨ icmp x y = 0 ∨ icmp x y = 1 := by unfold icmp; split <;> (try split) <;> simp
theorem pcmp_swap (a1 a2 a3 b1 b2 b3 : Int) : pcmp b1 b2 b3 a1 a2 a3 = -pcmp a1 a2 a3 b1 b2 b3 := by
  unfold pcmp
  by_cases h1 : a1 = b1
  · subst h1
    by_cases h2 : a1 = 1
    · rw [if_pos rfl, if_pos rfl, if_pos h2, if_pos h2]; exact icmp_swap _ _
    · rw [if_pos rfl, if_pos rfl, if_neg h2, if_neg h2]; exact icmp_swap _ _
  · rw [if_neg h1, if_neg (fun h => h1 h.symm)]; exact icmp_swap _ _
theorem pcmp_self (a1 a2 a3 : Int) : pcmp a1 a2 a3 a1 a2 a3 = 0 := by
  unfold pcmp
  rw [if_pos rfl]
  split <;> exact icmp_self _
theorem pcmp_rng (a1 a2 a3 b1 b2 b3 : Int) : pcmp a1 a2 a3 b1 b2 b3 = -1 ∨ pcmp a1 a2 a3 b1 b2 b3 = 0 ∨ pcmp a1 a2 a3 b1 b2 b3 = 1 := by
  unfold pcmp
  split
  · split <;> exact icmp_rng _ _
  · exact icmp_rng _ _
theorem icmp_ge (x y : Int) : 0 ≤ icmp x y ↔ y ≤ x := by unfold icmp; split <;> (try split) <;> simp <;> omega
theorem icmp_gt (x y : Int) : 0 < icmp x y ↔ y < x := by unfold icmp; split <;> (try split) <;> simp <;> omega
def pkey (a1 a2 a3 : Int) : Int := if a1 = 1 then -a3 else a2
theorem pcmp_ge (a1 a2 a3 b1 b2 b3 : Int) : 0 ≤ pcmp a1 a2 a3 b1 b2 b3 ↔ b1 < a1 ∨ (a1 = b1 ∧ pkey b1 b2 b3 ≤ pkey a1 a2 a3) := by
  unfold pcmp pkey
  by_cases h1 : a1 = b1
  · subst h1
    by_cases h2 : a1 = 1
    · rw [if_pos rfl, if_pos h2, if_pos h2, if_pos h2, icmp_ge]; omega
    · rw [if_pos rfl, if_neg h2, if_neg h2, if_neg h2, icmp_ge]; omega
  · rw [if_neg h1, icmp_ge]; omega
theorem pcmp_gt (a1 a2 a3 b1 b2 b3 : Int) : 0 < pcmp a1 a2 a3 b1 b2 b3 ↔ b1 < a1 ∨ (a1 = b1 ∧ pkey b1 b2 b3 < pkey a1 a2 a3) := by
  unfold pcmp pkey
  by_cases h1 : a1 = b1
  · subst h1
    by_cases h2 : a1 = 1
    · rw [if_pos rfl, if_pos h2, if_pos h2, if_pos h2, icmp_gt]; omega
    · rw [if_pos rfl, if_neg h2, if_neg h2, if_neg h2, icmp_gt]; omega
  · rw [if_neg h1, icmp_gt]; omega
theorem pcmp_trans (a1 a2 a3 b1 b2 b3 c1 c2 c3 : Int) (h : 0 ≤ pcmp a1 a2 a3 b1 b2 b3) (k : 0 ≤ pcmp b1 b2 b3 c1 c2 c3) :
    0 ≤ pcmp a1 a2 a3 c1 c2 c3 ∧ ((0 < pcmp a1 a2 a3 b1 b2 b3 ∨ 0 < pcmp b1 b2 b3 c1 c2 c3) → 0 < pcmp a1 a2 a3 c1 c2 c3) := by
  rw [pcmp_ge] at *
  rw [pcmp_gt, pcmp_gt, pcmp_gt]
  omega
theorem pcmp_zero (a1 a2 a3 b1 b2 b3 : Int) (ha : pmay a1 a2 a3 = true) (hb : pmay b1 b2 b3 = true) : pcmp a1 a2 a3 b1 b2 b3 = 0 ↔ (a1 = b1 ∧ a2 = b2 ∧ a3 = b3) := by
  have iz : ∀ x y : Int, icmp x y = 0 ↔ x = y := fun x y => by unfold icmp; split <;> (try split) <;> simp <;> omega
  unfold pmay at *
  unfold pcmp
  by_cases h1 : a1 = b1
  · subst h1
    by_cases h0 : a1 = 0
    · simp [h0] at ha hb; simp [h0, iz]; omega
    · by_cases h2 : a1 = 1
      · simp [h2] at ha hb; simp [h2, iz]; omega
      · by_cases h3 : a1 = 2
        · simp [h3] at ha hb; simp [h3, iz]; omega
        · simp [h0, h2, h3] at ha
  · simp [h1, iz]

end Go.Proofs.Ytpaoolcnoflhiaa
