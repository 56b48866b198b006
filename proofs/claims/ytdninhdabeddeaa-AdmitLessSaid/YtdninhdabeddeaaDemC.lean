/-
  WALKS of the statements on demand, chapter 17: DemandGrows, DemandAlone; the plain laws.
-/
import Derived.Test.YtdninhdabeddeaaDemB
import Derived.Test.YtdninhdabeddeaaLend
namespace Go.Proofs.Ytdninhdabeddeaa
open Go.RowKit
attribute [local go_sem] depUpon Sp.ok

theorem ejobs_no {s p d c : Int} (h : clip s < clip d) : ejobs s (p, d, c) = 0 := if_pos h
theorem ejobs_yes {s p d c : Int} (h : ¬ clip s < clip d) : ejobs s (p, d, c) = clip ((clip s - clip d) / max (clip p) 1 + 1) := by
  have h1 := clip_hi s
  have h2 := clip_lo d
  have e : ejobs s (p, d, c) = nsum [ndown (clip s - clip d) p, 1] := if_neg h
  have e2 : ndown (clip s - clip d) p = (clip s - clip d) / max (clip p) 1 := by unfold ndown; rw [clip_of (clip s - clip d) (by omega) (by omega)]
  have h3 := ndown_lo (clip s - clip d) p
  have h4 := ndown_hi (clip s - clip d) p
  rw [e, ← e2]
  generalize ndown (clip s - clip d) p = x at *
  simp [nsum]; unfold clip; omega
theorem ejobs_lo (s : Int) (e : Int × Int × Int) : 0 ≤ ejobs s e := by
  obtain ⟨p, d, c⟩ := e
  by_cases h : clip s < clip d
  · rw [ejobs_no h]; omega
  · rw [ejobs_yes h]; exact clip_lo _
theorem ejobs_mono {s t : Int} (h : s ≤ t) (e : Int × Int × Int) : ejobs s e ≤ ejobs t e := by
  obtain ⟨p, d, c⟩ := e
  have hst := clip_mono h
  by_cases h1 : clip s < clip d
  · rw [ejobs_no h1]; exact ejobs_lo _ _
  · rw [ejobs_yes h1, ejobs_yes (by omega)]
    refine clip_mono ?_
    have := Int.ediv_le_ediv (c := max (clip p) 1) (by omega) (show clip s - clip d ≤ clip t - clip d by omega)
    omega
theorem ework_mono {s t : Int} (h : s ≤ t) (e : Int × Int × Int) : ework s e ≤ ework t e := nmul_mono' (Int.le_refl _) (ejobs_mono h e)
theorem nsum2_mono {a b c d : Int} (h : a ≤ c) (k : b ≤ d) : nsum [a, b] ≤ nsum [c, d] := by simp [nsum]; unfold clip; omega
theorem nsum3_mono {a b c d e f : Int} (h : a ≤ d) (k : b ≤ e) (l : c ≤ f) : nsum [a, b, c] ≤ nsum [d, e, f] := by simp [nsum]; unfold clip; omega
theorem eneed_mono {s t : Int} (h : s ≤ t) : ∀ (n : Nat) (es : List (Int × Int × Int)), es.length = n → eneed s es ≤ eneed t es
  | 0, es, hl => by
    have : es = [] := List.eq_nil_of_length_eq_zero hl
    subst this; simp [eneed]
  | n + 1, es, hl => by
    rcases List.eq_nil_or_concat es with rfl | ⟨l', x, rfl⟩
    · simp at hl
    · rw [List.concat_eq_append] at hl ⊢
      rw [eneed_snoc, eneed_snoc]
      exact nsum2_mono (eneed_mono h n l' (by simpa using hl)) (ework_mono h x)
theorem eneed_one (s p d : Int) : eneed s [(p, d, 1)] = ejobs s (p, d, 1) := by
  have h0 := ejobs_lo s (p, d, 1)
  have h1 : ejobs s (p, d, 1) ≤ 1099511627776 := by
    by_cases h : clip s < clip d
    · rw [ejobs_no h]; omega
    · rw [ejobs_yes h]; exact clip_hi _
  have e : eneed s [(p, d, 1)] = nsum [0, nmul 1 (ejobs s (p, d, 1))] := rfl
  rw [e]
  generalize ejobs s (p, d, 1) = x at *
  have e1 : nmul 1 x = x := by
    unfold nmul
    rw [clip_of x h0 h1, clip_of 1 (by omega) (by omega), Int.one_mul, clip_of x h0 h1]
  rw [e1]
  simp [nsum]; unfold clip; omega
theorem eneed_one_lo (s p d : Int) : 0 ≤ eneed s [(p, d, 1)] ∧ eneed s [(p, d, 1)] ≤ 1099511627776 := ⟨eneed_lo _ _, eneed_hi _ _⟩

theorem jobs_both (x y p d : Int) (x0 : 0 ≤ x) (x1 : x < 2000) (y0 : 0 ≤ y) (y1 : y < 2000) (p0 : 1 ≤ p) (hd : p ≤ d) :
    eneed x [(p, d, 1)] + eneed y [(p, d, 1)] ≤ eneed (x + y) [(p, d, 1)] := by
  rw [eneed_one, eneed_one, eneed_one]
  have cx : clip x = x := clip_of x (by omega) (by omega)
  have cy : clip y = y := clip_of y (by omega) (by omega)
  have cxy : clip (x + y) = x + y := clip_of _ (by omega) (by omega)
  by_cases h1 : clip x < clip d
  · rw [ejobs_no h1]
    have := ejobs_mono (show y ≤ x + y by omega) (p, d, 1)
    omega
  · by_cases h2 : clip y < clip d
    · rw [ejobs_no h2]
      have := ejobs_mono (show x ≤ x + y by omega) (p, d, 1)
      omega
    · have cd : clip d = d := by unfold clip at h1 ⊢; omega
      have cp : clip p = p := clip_of p (by omega) (by rw [cd, cx] at h1; omega)
      have mp : max p 1 = p := by omega
      rw [ejobs_yes h1, ejobs_yes h2, ejobs_yes (by omega), cx, cy, cxy, cd, cp, mp]
      rw [cd, cx] at h1
      rw [cd, cy] at h2
      have k1 := Int.emod_add_mul_ediv (x - d) p
      have k2 := Int.emod_nonneg (x - d) (b := p) (by omega)
      have k3 := Int.emod_add_mul_ediv (y - d) p
      have k4 := Int.emod_nonneg (y - d) (b := p) (by omega)
      have q1 : 0 ≤ (x - d) / p := Int.ediv_nonneg (by omega) (by omega)
      have q2 : 0 ≤ (y - d) / p := Int.ediv_nonneg (by omega) (by omega)
      have q3 : (x - d) / p ≤ x - d := Int.ediv_le_self p (by omega)
      have q4 : (y - d) / p ≤ y - d := Int.ediv_le_self p (by omega)
      have q5 : (x - d) / p + (y - d) / p + 1 ≤ (x + y - d) / p := by
        rw [Int.le_ediv_iff_mul_le (by omega)]
        have e : ((x - d) / p + (y - d) / p + 1) * p = p * ((x - d) / p) + p * ((y - d) / p) + p := by rw [Int.add_mul, Int.add_mul, Int.one_mul, Int.mul_comm, Int.mul_comm ((y - d) / p)]
        rw [e]; omega
      have q6 : (x + y - d) / p ≤ x + y - d := Int.ediv_le_self p (by omega)
      rw [clip_of _ (by omega) (by omega), clip_of _ (by omega) (by omega), clip_of _ (by omega) (by omega)]
      omega

end Go.Proofs.Ytdninhdabeddeaa
